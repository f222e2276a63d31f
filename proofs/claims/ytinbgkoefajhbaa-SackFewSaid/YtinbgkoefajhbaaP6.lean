/- Part 6 of a proof: K1f, D28, Abs36, Abs37, Abs38, Abs39, Abs40, Abs45, G1, G3, G4, G2, G5, G6, Abs46, G7, G8. -/
import Derived.Test.YtinbgkoefajhbaaP5
import Derived.Test.YtinbgkoefajhbaaRows
section
namespace GA
open Go Go.RowKit Go.Proofs
set_option pp.deepTerms true
set_option maxRecDepth 8000
set_option linter.unusedVariables false
set_option linter.unusedSimpArgs false
def bigL (l : Ld) (b : Int) : Ld := ⟨b, l.shrink, false, l.sacks, l.nla, l.apart, l.nlw, l.wth⟩
theorem bigL_ok {l : Ld} (o : LdOk l) {b : Int} (h : 1 ≤ b ∧ b ≤ 100) : LdOk (bigL l b) := ⟨o.n, o.na, o.nw, h.1, h.2, o.s1, o.s2, o.sk, o.ap, o.wp⟩
theorem allGo_many {l : Ld} (o : LdOk l) {b : Int} {c : Nat} (hc : c ≤ 9) (h : 1 ≤ b ∧ b ≤ 100) : allGo l c b = decide (manyD (openD (bigL l b)) ≤ c) := by
  unfold allGo
  have ok := bigL_ok o h
  have e : rightB (openD (bearL l b)) = rightB (openD (bigL l b)) := funext fun s => by
    have := right_re (bearL l b) false l.nla l.nlw s
    exact this.symm
  rw [e]
  have hp := pow9 o.n
  exact goesB_opt (by omega) hc (many_opt (openD (bigL l b)) o.n)
theorem biggerX_c (l : Ld) (c : Int) (o : LdW l) : Comp Try.prog 32 [ldA l, .int .i64 c] (if carE l c = 0 then (match bigR l c.toNat with | some b => .tup [.int .i64 b, .int .i64 0] | none => .tup [.int .i64 0, .int .i64 6]) else .tup [.int .i64 0, .int .i64 (carE l c)]) := by
  have hck := check_c l o.w o.h1 o.h2 o.h3
  refine Comp.body' (T := tab) (res := [.tmp 4, .tmp 5]) tab_ok [] Try.func32 rfl (by kernel_rfl) Try.ntmps32 rfl (by simp only [List.length_cons, List.length_nil]; decide) (by simp only [lowL, AV.low, ldL]; rfl) ?_; conv => whnf
  refine Walk.scope tab_ok [] ?_
  conv => whnf
  by_cases h0 : checkR l = 0
  · have ok := (checkR_ok l).1 h0
    have hn := ok.n
    have hE : carE l c = if inB c 0 9 = true then 0 else 3 := by unfold carE; rw [if_neg (by omega)]
    rw [h0] at hck
    rw [hE]
    repeat' first | (with_reducible apply XBr.not) | ((with_reducible apply XBr.bne) <;> (intro h; first | (exfalso; omega) | (conv => whnf))) | ((first | (refine XCall.ret hck ?_) | (refine XCall.ret (in_c _ _ _) ?_)); conv => whnf) | ((with_reducible apply XBr.mk') <;> (intro h; conv => whnf)) | fail
    · rw [if_pos (by rw [if_pos h])]
      have hc : 0 ≤ c ∧ c ≤ 9 := inB_iff.1 h
      have hbig : bigR l c.toNat = leastB (allGo l c.toNat) (100 - 0) ((0 : Nat) + 1) := rfl
      refine Walk.label ?_
      conv => whnf
      skip
      refine Walk.loopF tab_ok [] (fun k : Nat => k ≤ 100 ∧ bigR l c.toNat = leastB (allGo l c.toNat) (100 - k) ((k : Int) + 1)) (fun k => [(1, .int .i64 c), (2, .pim (ldC l)), (4, .int .i64 0), (5, .int .i64 0), (7, .int .i64 0), (21, natA k)]) (fun _ => []) (fun k => 100 - k) 0 ⟨by omega, hbig⟩ rfl ⟨rfl, rfl, rfl, rfl, rfl, rfl, trivial⟩ (fun _ _ x hx => by simp at hx) (fun _ _ => Nat.le_refl _) ?_
      rintro k ⟨hk, he⟩
      have e2 : ((l.sacks.map skA).length : Int) = l.sacks.length := by rw [List.length_map]
      conv => whnf
      repeat' first | ((with_reducible apply XBr.dec) <;> (intro h; first | (exfalso; omega) | ((try simp only [List.length_map] at h); first | (exfalso; omega) | (conv => whnf)))) | ((with_reducible apply XBr.beq) <;> (intro h; first | (exfalso; omega) | (conv => whnf))) | fail
      · have e3 : (((l.sacks.map skA).length : Int)).toNat = l.sacks.length := by omega
        have hag := allGo_many ok (b := (k : Int) + 1) (c := c.toNat) (by omega) ⟨by omega, by omega⟩
        have hls : leastB (allGo l c.toNat) (100 - k) ((k : Int) + 1) = if allGo l c.toNat ((k : Int) + 1) = true then some ((k : Int) + 1) else leastB (allGo l c.toNat) (100 - (k + 1)) (((k + 1 : Nat) : Int) + 1) := by
          rw [show 100 - k = (100 - (k + 1)) + 1 by omega]; rfl
        rw [hls] at he
        have bok := bigL_ok ok (b := (k : Int) + 1) ⟨by omega, by omega⟩
        have hfe := few_c (bigL l ((k : Int) + 1)) bok ⟨o.w, o.h1, o.h2, o.h3⟩
        unfold fewA at hfe
        apply Walk.drawX tab_ok mixed_ok [] [5, 7, 9] (fun fl => match fl with
          | [a, b, x] => [.cells [.int .i64 (bif b then (k : Int) + 1 else l.bears), .int .i64 l.shrink, (bif x then .gr 1 l.sacks.length else .sl l.nls (l.sacks.map skA)), .sl l.nla (l.apart.map prA), .sl l.nlw (l.wth.map prA)]] ++ (bif a then [.grow 74 false (List.replicate l.sacks.length (skA ⟨0, 0⟩))] else [])
          | _ => []) [_, _, _, _, _, .gr 1 l.sacks.length, _, _, _, _] (by kernel_rfl) rfl
        · skip
          repeat' first | ((with_reducible refine XInt.i64 (by omega) (by omega) ?_); conv => whnf) | ((with_reducible refine XHold.mk ?_ ?_); (first | omega | rfl | decide | exact ⟨rfl, by decide, rfl⟩ | exact wideI _ | exact widePr _ | exact wideSk _ | (unfold Room; constructor <;> ((try simp) <;> omega)) | exact ⟨rfl, by simp only [List.length_map], by unfold Room; constructor <;> ((try simp) <;> omega)⟩ | exact ⟨by omega, by omega, by unfold Room; constructor <;> ((try simp) <;> omega)⟩); conv => whnf) | (with_reducible apply XAnd.mk) | ((first | (with_reducible apply Chk.go) | (with_reducible apply ChkA.go)); conv => whnf) | (exact XSame.mk rfl rfl) | (with_reducible exact trivial) | fail
          refine XSame.mk (congrArg (AV.gr 1) e3) ?_
          rw [e3]
          rfl
        · skip
          repeat' first | ((with_reducible refine XInt.i64 (by omega) (by omega) ?_); conv => whnf) | ((with_reducible refine XHold.mk ?_ ?_); (first | omega | rfl | decide | exact ⟨rfl, by decide, rfl⟩ | exact wideI _ | exact widePr _ | exact wideSk _ | (unfold Room; constructor <;> ((try simp) <;> omega)) | exact ⟨rfl, by simp only [List.length_map], by unfold Room; constructor <;> ((try simp) <;> omega)⟩ | exact ⟨by omega, by omega, by unfold Room; constructor <;> ((try simp) <;> omega)⟩); conv => whnf) | (with_reducible apply XAnd.mk) | ((first | (with_reducible apply Chk.go) | (with_reducible apply ChkF.go) | (with_reducible apply ChkB.go)); conv => whnf) | (exact XSame.mk rfl rfl) | (with_reducible exact trivial) | fail
          refine XSame.mk (congrArg (AV.gr 1) e3) ?_
          rw [e3]
          rfl
        conv => whnf
        repeat' first | ((with_reducible refine XHold.mk ?_ ?_); (first | omega | rfl | decide | exact ⟨rfl, by decide, rfl⟩ | exact wideI _ | exact widePr _ | exact wideSk _ | (unfold Room; constructor <;> ((try simp) <;> omega)) | exact ⟨rfl, by simp only [List.length_map], by unfold Room; constructor <;> ((try simp) <;> omega)⟩ | exact ⟨by omega, by omega, by unfold Room; constructor <;> ((try simp) <;> omega)⟩); conv => whnf) | fail
        refine XHold.mk ⟨rfl, by rw [List.length_replicate]⟩ ?_
        conv => whnf
        refine XPutEls.mk ?_
        have hsp : splice (List.replicate l.sacks.length (skA ⟨0, 0⟩)) 0 ((l.sacks.map skA).take l.sacks.length) = l.sacks.map skA := by
          rw [List.take_of_length_le (by rw [List.length_map]; exact Nat.le_refl _)]
          unfold splice
          rw [List.take_zero, List.nil_append, List.drop_of_length_le (by rw [List.length_replicate, List.length_map]; omega), List.append_nil]
        rw [hsp]
        conv => whnf
        refine XCall.freezeCell 0 2 1 l.sacks.length (t := 74) (nl := false) (els := l.sacks.map skA) rfl rfl rfl (by rw [List.length_map]) (.agg (cs' := ldC (bigL l ((k : Int) + 1))) (by intro x hx; simp only [ldC, List.mem_cons, List.not_mem_nil, or_false] at hx; rcases hx with rfl | rfl | rfl | rfl | rfl <;> rfl) (.same (.same (.gr (.same (.same .nil))))) .nil) ?_
        by_cases hm : 9 < manyD (openD (bigL l ((k : Int) + 1)))
        · rw [if_pos hm] at hfe
          rw [if_neg (by rw [hag, decide_eq_true_eq]; omega)] at he
          refine XCall.ret hfe ?_
          conv => whnf
          repeat' first | ((with_reducible apply XBr.ff); conv => whnf) | ((with_reducible apply XBr.beq) <;> (intro h; first | (exfalso; omega) | (conv => whnf))) | ((with_reducible refine XInt.i64 (by omega) (by omega) ?_); conv => whnf) | fail
          exact XAgainF.go (k + 1) _ ⟨by omega, he⟩ (by omega) rfl ⟨⟨_, rfl, .same rfl⟩, ⟨_, rfl, .same (by simp only [AV.low, lowLd])⟩, ⟨_, rfl, .same rfl⟩, ⟨_, rfl, .same rfl⟩, ⟨_, rfl, .same rfl⟩, ⟨_, rfl, .same rfl⟩, trivial⟩
        · rw [if_neg hm] at hfe
          generalize hmm : manyD (openD (bigL l ((k : Int) + 1))) = mm at hfe hm hag
          refine XCall.ret hfe ?_
          conv => whnf
          repeat' first | ((with_reducible apply XBr.tt); conv => whnf) | ((with_reducible apply XBr.dec) <;> (intro h; first | (exfalso; omega) | ((try simp only [List.length_map] at h); first | (exfalso; omega) | (conv => whnf)))) | ((with_reducible apply XBr.beq) <;> (intro h; first | (exfalso; omega) | (conv => whnf))) | ((with_reducible refine XInt.i64 (by omega) (by omega) ?_); conv => whnf) | fail
          · rw [if_pos (by rw [hag, decide_eq_true_eq]; omega)] at he
            rw [he]
            exact ⟨Froz.low rfl⟩
          · rw [if_neg (by rw [hag, decide_eq_true_eq]; omega)] at he
            exact XAgainF.go (k + 1) _ ⟨by omega, he⟩ (by omega) rfl ⟨⟨_, rfl, .same rfl⟩, ⟨_, rfl, .same (by simp only [AV.low, lowLd])⟩, ⟨_, rfl, .same rfl⟩, ⟨_, rfl, .same rfl⟩, ⟨_, rfl, .same rfl⟩, ⟨_, rfl, .same rfl⟩, trivial⟩
      · rw [he, show 100 - k = 0 by omega]
        exact ⟨Froz.low rfl⟩
    · rw [if_neg (by rw [if_neg (by rw [h]; simp)]; decide), if_neg (by rw [h]; simp)]; exact ⟨Froz.low rfl⟩
  · have hE : carE l c = checkR l := by unfold carE; rw [if_pos h0]
    rw [hE, if_neg h0]
    generalize checkR l = e at h0 hck
    repeat' first | ((with_reducible apply XBr.bne) <;> (intro h; first | (exfalso; omega) | (conv => whnf))) | ((refine XCall.ret hck ?_); conv => whnf) | fail
    exact ⟨Froz.low rfl⟩
def insRen : Go.Shelf.Ren := ⟨fun | 21 => 55 | 27 => 98 | 28 => 99 | 35 => 144 | 39 => 163 | n => n, fun | 0 => 0 | 3 => 3 | 4 => 4 | 22 => 43 | n => n, fun n => n⟩
theorem insLays : Lays2.n21 Try.prog insRen where
  mixed := by kernel_rfl
  f21 := Try.func55.trans (congrArg some (by kernel_rfl))
  f27 := Try.func98.trans (congrArg some (by kernel_rfl))
  f28 := Try.func99.trans (congrArg some (by kernel_rfl))
  f35 := Try.func144.trans (congrArg some (by kernel_rfl))
  f39 := Try.func163.trans (congrArg some (by kernel_rfl))
  t0 := Try.underlying0
  a0 := Try.isAgg0
  z0 := Try.sizeOf0
  v0 := Try.zeroValue0
  t3 := Try.underlying3
  a3 := Try.isAgg3
  z3 := Try.sizeOf3
  v3 := Try.zeroValue3
  t4 := Try.underlying4
  a4 := Try.isAgg4
  z4 := Try.sizeOf4
  v4 := Try.zeroValue4
  t22 := Try.underlying43
  a22 := Try.isAgg43
  z22 := Try.sizeOf43
  v22 := Try.zeroValue43
  i3 := by kernel_rfl

theorem XCall.insert {H : List Blk} {i j n p : Nat} {nl : Bool} {ys : List Int} {x q : Int} {k : AV → List Blk → Prop} (hi : lget H i = some (.grow 3 nl (ints ys))) (hj : lget H j = some (.grow 3 false [.int .i64 x]))
    (hij : i ≠ j) (hl : ys.length = n) (hq : q = p) (hp : p ≤ n) (hn : n ≤ 1000000) (hk : k (.gr i (n + 1)) (H.set i (.grow 3 false (ints (putAt ys p x))))) : XCall Try.prog 55 [.gr i n, .int .i64 q, .gr j 1] H k := by
  subst hl hq
  rw [lget_eq] at hi hj
  exact ⟨ACall.insert insLays hi hj hij hp hn hk⟩

theorem putAt_ne {ys : List Int} {p : Nat} {x : Int} : (putAt ys p x).isEmpty = false := by simp [putAt]
def ordK (u : Hp) : Nat → List Int × Hp
  | 0 => ([], u)
  | k + 1 => (putAt (ordK u k).1 (modV (ordK u k).2 k).toNat k, hpS (ordK u k).2)
theorem ordK_ok {u : Hp} (o : u.Ok) : ∀ k, (ordK u k).2.Ok ∧ (ordK u k).1.length = k
  | 0 => ⟨o, rfl⟩
  | k + 1 => by
    obtain ⟨h1, h2⟩ := ordK_ok o k
    have h3 := modV_bound (ordK u k).2 k
    exact ⟨hpS_ok h1, by show (putAt _ _ _).length = _; rw [putAt_length (by omega), h2]⟩
theorem order_end {x : Hp} {ys : List Int} {nl : Bool} {n k : Nat} {R : List Blk} (hn : n = 1) (hk : ys.length = k) : XEnd Try.prog n (hpC x :: .grow 3 nl (ints ys) :: R) (.gr 1 k) (.sl nl (ints ys)) [hpC x] := by
  subst hn
  exact ⟨rfl, rfl, fun y hy => by simp only [List.mem_cons, List.not_mem_nil, or_false] at hy; subst hy; exact hpC_low _, .grow (by decide) rfl (by rw [List.length_map]; exact hk) (lowI _)⟩
theorem order_c (u : Hp) (n : Nat) (o : u.Ok) (hn : n ≤ 1000) : HpOk 19 [natA n] u (slA (ordK u n).1) (ordK u n).2 := by
  have ok := ordK_ok o
  refine ⟨rfl, ?_⟩
  refine ACall.bodyN (T := tab) (res := [.tmp 4]) tab_ok [17] Try.func19 rfl (by kernel_rfl) Try.ntmps19 rfl (by simp only [List.length_cons, List.length_nil]; decide) ⟨rfl, rfl⟩ ?_; conv => whnf
  skip
  refine Walk.nilgr 5 3 rfl ?_
  refine Walk.loopG tab_ok [17] (fun k : Nat => k ≤ n) (fun k => [(0, .ptr 0 0), (4, .sl true []), (5, .gr 1 k), (8, .int .i64 (max 0 (n : Int))), (9, natA k)]) (fun k => [hpC (ordK u k).2, .grow 3 (ordK u k).1.isEmpty (ints (ordK u k).1)]) (fun k => n - k) 0 (Nat.zero_le _) rfl ⟨rfl, rfl, rfl, rfl, rfl, trivial⟩ ?_ ?_ ?_
  · intro k hk
    refine ⟨fun x hx => ?_, fun p hp => ?_⟩
    · simp only [List.mem_cons, List.not_mem_nil, or_false] at hx
      rcases hx with rfl | rfl
      · exact hpC_low _
      · exact lowI _
    · simp only [List.mem_cons, List.not_mem_nil, or_false] at hp
      rcases hp with rfl | rfl | rfl | rfl | rfl <;> rfl
  · intro k hk; exact Nat.le_refl _
  intro k hk
  obtain ⟨vo, vl⟩ := ok k
  have hnx : ordK u (k + 1) = (putAt (ordK u k).1 (modV (ordK u k).2 k).toNat k, hpS (ordK u k).2) := rfl
  have hfin : (k : Int) = max 0 (n : Int) → ordK u n = ordK u k := fun h => by rw [show n = k by omega]
  generalize ordK u k = q at vo vl hnx hfin
  obtain ⟨ys, v⟩ := q
  dsimp only at vo vl hnx hfin
  have b1 := modV_bound v k
  conv => whnf
  repeat' first | ((with_reducible apply XBr.dec) <;> (intro h; first | (exfalso; omega) | ((try simp only [List.length_map] at h); first | (exfalso; omega) | (conv => whnf)))) | ((with_reducible refine XInt.i64 (by omega) (by omega) ?_); conv => whnf) | ((with_reducible refine XHold.mk ?_ ?_); (first | omega | rfl | decide | exact ⟨rfl, by decide, rfl⟩ | exact wideI _ | exact widePr _ | exact wideSk _ | (unfold Room; constructor <;> ((try simp) <;> omega)) | exact ⟨rfl, by simp only [List.length_map], by unfold Room; constructor <;> ((try simp) <;> omega)⟩ | exact ⟨by omega, by omega, by unfold Room; constructor <;> ((try simp) <;> omega)⟩); conv => whnf) | ((first | (refine XCall.hp (j := 0) (upto_c v k vo (by omega) (by omega)) rfl rfl ?_) | (refine XCall.insert (p := (modV v k).toNat) rfl rfl (by decide) vl (by omega) (by omega) (by omega) ?_)); conv => whnf) | fail
  · refine XAgainG.go (k + 1) [.grow 3 false [.int .i64 k]] (show k + 1 ≤ n by omega) (show n - (k + 1) < n - k by omega) ?_ ⟨rfl, rfl, rfl, rfl, rfl, trivial⟩
    rw [hnx]
    show [hpC (hpS v), Blk.grow 3 (putAt ys (modV v k).toNat k).isEmpty (ints (putAt ys (modV v k).toNat k)), _] = _
    rw [putAt_ne]
    rfl
  · have hf := hfin (by omega)
    rw [hf]
    exact order_end rfl vl
theorem putAt_perm (ys : List Int) (p : Nat) (x : Int) : (putAt ys p x).Perm (x :: ys) := by
  unfold putAt
  refine List.perm_middle.trans ?_
  rw [List.take_append_drop]
theorem ordK_perm (u : Hp) : ∀ n, (ordK u n).1.Perm ((List.range n).map fun i : Nat => (i : Int))
  | 0 => .refl _
  | n + 1 => by
    refine (putAt_perm _ _ _).trans ?_
    rw [List.range_succ, List.map_append]
    refine (List.Perm.cons _ (ordK_perm u n)).trans ?_
    exact (List.perm_append_comm (l₁ := [(n : Int)])).trans (.refl _)
theorem ordK_mem (u : Hp) (n : Nat) (z : Int) : z ∈ (ordK u n).1 ↔ 0 ≤ z ∧ z < n := by
  rw [(ordK_perm u n).mem_iff, List.mem_map]
  constructor
  · rintro ⟨i, hi, rfl⟩
    have := List.mem_range.1 hi
    omega
  · intro h
    exact ⟨z.toNat, List.mem_range.2 (by omega), by omega⟩
theorem lawWeight_c (l : Ld) (o : LdOk l) (i : Nat) (hi : i < l.sacks.length) : Comp Try.prog 24 [ldA l, natA i] (.int .i64 (weightR l (l.sacks.getD i default))) := by
  have hs := o.sk _ (getD_mem (d := default) hi)
  have h2 := o.s1
  have h3 := o.s2
  have e1 : 0 ≤ (l.sacks.getD i default).m * l.shrink := Int.mul_nonneg (by omega) h2
  have e2 : (l.sacks.getD i default).m * l.shrink ≤ 100 * 100 := Int.mul_le_mul hs.2.1 (by omega) h2 (by omega)
  have e3 : ((l.sacks.getD i default).m * l.shrink).tdiv 100 = ((l.sacks.getD i default).m * l.shrink) / 100 := Int.tdiv_eq_ediv_of_nonneg e1
  refine Comp.body (T := tab) (res := [.tmp 4]) tab_ok [] Try.func24 rfl (by kernel_rfl) Try.ntmps24 rfl (by simp only [List.length_cons, List.length_nil]; decide) (by simp only [lowL, AV.low, ldL]; rfl) ?_; conv => whnf
  apply Walk.drawX tab_ok mixed_ok [] [] (hsK _) [_, _, _, _, _, _, _, _, _, _, _, _, _, _, _, _, .int .i64 (weightR l (l.sacks.getD i default)), _] (by kernel_rfl) rfl
  · skip
    repeat' first | ((with_reducible refine XInt.i64 (by omega) (by omega) ?_); conv => whnf) | ((with_reducible refine XHold.mk ?_ ?_); (first | omega | rfl | decide | exact ⟨rfl, by decide, rfl⟩ | exact wideI _ | exact widePr _ | exact wideSk _ | (unfold Room; constructor <;> ((try simp) <;> omega)) | exact ⟨rfl, by simp only [List.length_map], by unfold Room; constructor <;> ((try simp) <;> omega)⟩ | exact ⟨by omega, by omega, by unfold Room; constructor <;> ((try simp) <;> omega)⟩); conv => whnf) | (((with_reducible refine XIx.nat ?_ ?_ ?_); omega; (intro _; rfl)); conv => whnf) | (with_reducible apply XAnd.mk) | ((first | (with_reducible apply Chk.go) | (with_reducible apply ChkA.go)); conv => whnf) | (exact XSame.mk rfl rfl) | (with_reducible exact trivial) | ((refine XSame.mk ?_ rfl); (rw [e3]; rfl)) | fail
  · skip
    repeat' first | (with_reducible apply XAnd.mk) | ((first | (with_reducible apply ChkF.go) | (with_reducible apply ChkB.go)); conv => whnf) | (with_reducible exact trivial) | fail
  conv => whnf
  skip
  all_goals exact XOut.int rfl
theorem lawR1_c (nl : Bool) (bs : List Bool) (p : Int × Int) (h1 : 0 ≤ p.1) (h2 : p.1 < bs.length) (h3 : 0 ≤ p.2) (h4 : p.2 < bs.length) :
    Comp Try.prog 68 [prA p, .pim [.sl nl (bools bs)]] (.bool (bs.getD p.1.toNat default != bs.getD p.2.toNat default)) := by
  refine Comp.body (T := tab) (res := [.tmp 3]) tab_ok [] Try.func68 rfl (by kernel_rfl) Try.ntmps68 rfl (by simp only [List.length_cons, List.length_nil]; decide) (by simp only [lowL, AV.low, prL, lowBo]; rfl) ?_; conv => whnf
  apply Walk.drawX tab_ok mixed_ok [] [] (hsK _) [_, _, _, _, _, _, _, _, _, _, .bool (bs.getD p.1.toNat default != bs.getD p.2.toNat default), _] (by kernel_rfl) rfl
  · skip
    repeat' first | (((with_reducible refine XIx.map ?_ ?_ ?_ ?_); omega; omega; (intro _; rfl)); conv => whnf) | (with_reducible apply XAnd.mk) | ((first | (with_reducible apply Chk.go) | (with_reducible apply ChkA.go)); conv => whnf) | (exact XSame.mk rfl rfl) | (with_reducible exact trivial) | ((first | (with_reducible apply XArr.pim0) | (with_reducible apply XArr.pim1)); conv => whnf) | fail
  · skip
    repeat' first | (with_reducible apply XAnd.mk) | ((first | (with_reducible apply ChkF.go) | (with_reducible apply ChkB.go)); conv => whnf) | (with_reducible exact trivial) | fail
  conv => whnf
  skip
  all_goals exact XOut.bool rfl
theorem lawR2_c (nl : Bool) (bs : List Bool) (p : Int × Int) (h1 : 0 ≤ p.1) (h2 : p.1 < bs.length) (h3 : 0 ≤ p.2) (h4 : p.2 < bs.length) :
    Comp Try.prog 69 [prA p, .pim [.sl nl (bools bs)]] (.bool (bs.getD p.1.toNat default && bs.getD p.2.toNat default)) := by
  refine Comp.body (T := tab) (res := [.tmp 3]) tab_ok [] Try.func69 rfl (by kernel_rfl) Try.ntmps69 rfl (by simp only [List.length_cons, List.length_nil]; decide) (by simp only [lowL, AV.low, prL, lowBo]; rfl) ?_; conv => whnf
  repeat' first | ((first | (with_reducible apply XBr.tt) | (with_reducible apply XBr.ff) | ((with_reducible refine XIx.map ?_ ?_ ?_ ?_); omega; omega; (intro _; rfl)) | (with_reducible apply XArr.pim0) | (with_reducible apply XArr.pim1)); conv => whnf) | ((with_reducible apply XBr.mk') <;> (intro h; conv => whnf)) | fail
  all_goals exact XOut.bool (by rw [h]; rfl)
def lawRightB (l : Ld) (bs : List Bool) : Bool := decide (wsum l (lsN bs) ≤ l.bears) && !(l.wth.any fun p => bs.getD p.1.toNat default != bs.getD p.2.toNat default) && !(l.apart.any fun p => bs.getD p.1.toNat default && bs.getD p.2.toNat default)
theorem wsumK_next (l : Ld) (bs : List Bool) (k : Nat) (hk : k < l.sacks.length) : wsum l (lsK bs (k + 1)) = if bs.getD k false = true then wsum l (lsK bs k) + weightR l (l.sacks.getD k default) else wsum l (lsK bs k) := by
  rw [lsK_next]
  split
  · unfold wsum
    rw [List.map_append, List.sum_append]
    congr 1
    simp [hk]
  · rfl
theorem wsumK_bound {l : Ld} (o : LdOk l) (bs : List Bool) : ∀ k, k ≤ l.sacks.length → 0 ≤ wsum l (lsK bs k) ∧ wsum l (lsK bs k) ≤ 100 * k
  | 0, _ => by simp [lsK, wsum]
  | k + 1, hk => by
    have ih := wsumK_bound o bs k (by omega)
    have hw := wt_le o (getD_mem (d := default) (show k < l.sacks.length by omega))
    rw [wsumK_next l bs k (by omega)]
    split <;> omega
theorem lawRight_c (l : Ld) (o : LdOk l) (nl : Bool) (bs : List Bool) (hb : bs.length = l.sacks.length) : Comp Try.prog 29 [ldA l, .sl nl (bools bs)] (.bool (lawRightB l bs)) := by
  have hn := o.n
  have hnw := o.nw
  have hna := o.na
  have e1 : ((bools bs).length : Int) = l.sacks.length := by rw [List.length_map, hb]
  have hc1 := contf_pr l.nlw l.wth 68 [.pim [.sl nl (bools bs)]] _ (by simp only [lowL, AV.low, lowBo]; rfl) (by omega) fun p hp => lawR1_c nl bs p (o.wp p hp).1 (by have := o.wp p hp; omega) (o.wp p hp).2.2.1 (by have := o.wp p hp; omega)
  have hc2 := contf_pr l.nla l.apart 69 [.pim [.sl nl (bools bs)]] _ (by simp only [lowL, AV.low, lowBo]; rfl) (by omega) fun p hp => lawR2_c nl bs p (o.ap p hp).1 (by have := o.ap p hp; omega) (o.ap p hp).2.2.1 (by have := o.ap p hp; omega)
  have hlaw : lawRightB l bs = (decide (wsum l (lsK bs l.sacks.length) ≤ l.bears) && !(l.wth.any fun p => bs.getD p.1.toNat default != bs.getD p.2.toNat default) && !(l.apart.any fun p => bs.getD p.1.toNat default && bs.getD p.2.toNat default)) := by unfold lawRightB lsN; rw [hb]
  rw [hlaw]
  generalize (l.wth.any fun p => bs.getD p.1.toNat default != bs.getD p.2.toNat default) = A at hc1
  generalize (l.apart.any fun p => bs.getD p.1.toNat default && bs.getD p.2.toNat default) = B at hc2
  refine Comp.body (T := tab) (res := [.tmp 4]) tab_ok [] Try.func29 rfl (by kernel_rfl) Try.ntmps29 rfl (by simp only [List.length_cons, List.length_nil]; decide) (by simp only [lowL, AV.low, ldL, lowBo]; rfl) ?_; conv => whnf
  skip
  refine Walk.loop tab_ok [] (fun k : Nat => k ≤ l.sacks.length) (fun k => [(2, .pim (ldC l)), (3, .pim [.sl nl (bools bs)]), (4, .bool false), (8, .sl nl (bools bs)), (9, .int .i64 l.sacks.length), (5, .int .i64 (wsum l (lsK bs k))), (10, natA k)]) (fun _ => []) (fun k => l.sacks.length - k) 0 (by omega) rfl ⟨rfl, rfl, rfl, rfl, ?_, rfl, rfl, trivial⟩ ?_
  · exact congrArg (fun n => some (AV.int .i64 n)) e1
  intro k hk
  have wn := wsumK_next l bs k
  have wb := wsumK_bound o bs k hk
  have hfin : k = l.sacks.length → wsum l (lsK bs l.sacks.length) = wsum l (lsK bs k) := fun h => by rw [h]
  generalize wsum l (lsK bs k) = sm at wn wb hfin
  have hw := fun h => lawWeight_c l o k h
  have hwt := fun (h : k < l.sacks.length) => wt_le o (getD_mem (d := default) h)
  conv => whnf
  repeat' first | ((first | (with_reducible apply XBr.tt) | (with_reducible apply XBr.ff)); conv => whnf) | ((with_reducible apply XBr.dec) <;> (intro h; first | (exfalso; omega) | ((try simp only [List.length_map] at h); first | (exfalso; omega) | (conv => whnf)))) | ((first | (with_reducible refine XInt.i64 (by omega) (by omega) ?_) | ((with_reducible refine XIx.nat ?_ ?_ ?_); omega; (intro _; rfl)) | (refine XCall.ret (hw (by omega)) ?_)); conv => whnf) | ((with_reducible apply XBr.mk') <;> (intro h; conv => whnf)) | fail
  · refine XAgain.go (k + 1) (by omega) (by omega) rfl ⟨rfl, rfl, rfl, rfl, rfl, ?_, rfl, trivial⟩
    show some (AV.int .i64 (sm + weightR l (l.sacks.getD k default))) = some (AV.int .i64 (wsum l (lsK bs (k + 1))))
    rw [wn (by omega), if_pos (show bs.getD k false = true from h)]
  · refine XAgain.go (k + 1) (by omega) (by omega) rfl ⟨rfl, rfl, rfl, rfl, rfl, ?_, rfl, trivial⟩
    show some (AV.int .i64 sm) = some (AV.int .i64 (wsum l (lsK bs (k + 1))))
    rw [wn (by omega), if_neg (by rw [show bs.getD k false = false from h]; simp)]
  · refine XCall.ret hc1 ?_
    conv => whnf
    have hf := hfin (by omega)
    have hd : decide (sm ≤ l.bears) = true := decide_eq_true h
    repeat' first | ((first | (with_reducible apply XBr.tt) | (with_reducible apply XBr.ff)); conv => whnf) | (with_reducible apply XBr.not) | ((refine XCall.ret hc2 ?_); conv => whnf) | ((with_reducible apply XBr.mk') <;> (intro h; conv => whnf)) | fail
    all_goals exact XOut.bool (by rw [hf, hd]; simp [*])
  · have hf := hfin (by omega)
    exact XOut.bool (by rw [hf, decide_eq_false h]; rfl)
theorem lawRight_eq {l : Ld} (o : LdOk l) {bs : List Bool} (hb : bs.length = l.sacks.length) : lawRightB l bs = rightB (openD l) (setN bs) := by
  have hlt : setN bs < 2 ^ l.sacks.length := by rw [← hb]; exact setN_lt bs
  have hbs : bs = boolN l.sacks.length (setN bs) := bool_ext hb fun k _ => (setN_bit bs k).symm
  have hls : lsN bs = bits (setN bs) := (congrArg lsN hbs).trans (bits_ls o.n hlt)
  have hbit := fun k => setN_bit bs k
  rw [Bool.eq_iff_iff, right_iff o hlt]
  unfold lawRightB
  rw [hls, wsum_bits o hlt, Bool.and_eq_true, Bool.and_eq_true, decide_eq_true_eq, Bool.not_eq_true', Bool.not_eq_true', List.any_eq_false, List.any_eq_false]
  constructor
  · rintro ⟨⟨h1, h2⟩, h3⟩
    refine ⟨h1, fun p hp => ?_, fun p hp => ?_⟩
    · have := h2 p hp
      rw [hbit, hbit]
      simpa using this
    · have := h3 p hp
      rw [hbit, hbit]
      intro e
      exact this (by rw [show bs.getD p.1.toNat default = true from e.1, show bs.getD p.2.toNat default = true from e.2]; rfl)
  · intro h
    refine ⟨⟨h.w, fun p hp => ?_⟩, fun p hp e => ?_⟩
    · have := h.wp p hp
      rw [hbit, hbit] at this
      simpa using this
    · rw [Bool.and_eq_true] at e
      exact h.ap p hp ⟨by rw [hbit]; exact e.1, by rw [hbit]; exact e.2⟩
theorem sorted_c (nl : Bool) (xs : List Int) (hx : xs.length ≤ 100000) (hs : ∀ j, j + 1 < xs.length → xs.getD j default ≤ xs.getD (j + 1) default) : Comp Try.prog 27 [.sl nl (ints xs)] (.bool true) := by
  have e1 : ((ints xs).length : Int) = xs.length := by rw [List.length_map]
  refine Comp.body (T := tab) (res := [.tmp 2]) tab_ok [] Try.func27 rfl (by kernel_rfl) Try.ntmps27 rfl (by simp only [List.length_cons, List.length_nil]; decide) (by simp only [lowL, AV.low, lowI]; rfl) ?_; conv => whnf
  repeat' first | ((with_reducible refine XInt.i64 (by omega) (by omega) ?_); conv => whnf) | fail
  refine Walk.loop tab_ok [] (fun i : Int => i < xs.length) (fun i => [(0, .sl nl (ints xs)), (3, .int .i64 i)]) (fun _ => []) (fun i => i.toNat) (((ints xs).length : Int) - 1) (by omega) rfl ⟨rfl, rfl, trivial⟩ ?_
  rintro i hi
  have hno : 0 < i → decide (xs.getD i.toNat default < xs.getD (i - 1).toNat default) = false := fun h => by
    have := hs (i - 1).toNat (by omega)
    rw [show (i - 1).toNat + 1 = i.toNat by omega] at this
    exact decide_eq_false (by omega)
  conv => whnf
  repeat' first | ((with_reducible apply XBr.dec) <;> (intro h; first | (exfalso; omega) | ((try simp only [List.length_map] at h); first | (exfalso; omega) | (conv => whnf)))) | fail
  · apply Walk.drawX tab_ok mixed_ok [] [] (hsK _) [_, _, _, _, _, _, _, _, _, .bool false] (by kernel_rfl) rfl
    · skip
      repeat' first | ((first | (with_reducible refine XInt.i64 (by omega) (by omega) ?_) | ((with_reducible refine XIx.map ?_ ?_ ?_ ?_); omega; omega; (intro _; rfl))); conv => whnf) | (with_reducible apply XAnd.mk) | ((first | (with_reducible apply Chk.go) | (with_reducible apply ChkA.go)); conv => whnf) | (exact XSame.mk rfl rfl) | (with_reducible exact trivial) | ((refine XCall.ret (cmpLess_c _ _) ?_); conv => whnf) | ((refine XSame.mk (by rw [hno (by omega)]) rfl)) | fail
    · skip
      repeat' first | (with_reducible apply XAnd.mk) | ((first | (with_reducible apply ChkF.go) | (with_reducible apply ChkB.go)); conv => whnf) | (with_reducible exact trivial) | fail
    conv => whnf
    repeat' first | ((first | (with_reducible apply XBr.ff) | (with_reducible refine XInt.i64 (by omega) (by omega) ?_)); conv => whnf) | fail
    exact XAgain.go (i - 1) (show i - 1 < (xs.length : Int) by omega) (by omega) rfl ⟨rfl, rfl, trivial⟩
  · exact XOut.bool rfl
theorem bits_asc {n s : Nat} (hn : n ≤ 9) (h : s < 2 ^ n) : (bits s).Pairwise (· < ·) := by
  rw [← bits_ls hn h]
  unfold lsN lsK
  refine List.pairwise_map.2 ((List.Pairwise.filter _ List.pairwise_lt_range).imp fun h => by omega)
theorem bestF_max {W : Nat → Nat} {G : Nat → Bool} {k : Nat} (hG : G k = true) : ∀ m, k < m → W k ≤ W (bestF W G m)
  | 0, h => absurd h (Nat.not_lt_zero _)
  | m + 1, h => by
    show W k ≤ W (if better W G (bestF W G m) m = true then m else bestF W G m)
    rcases Nat.lt_or_ge k m with h1 | h1
    · have ih := bestF_max (W := W) hG m h1
      split
      · rename_i hb
        simp only [better, Bool.and_eq_true, Bool.or_eq_true, decide_eq_true_eq] at hb
        omega
      · exact ih
    · obtain rfl : k = m := by omega
      split
      · exact Nat.le_refl _
      · rename_i hb
        simp only [better, hG, Bool.true_and, Bool.or_eq_true, Bool.and_eq_true, decide_eq_true_eq] at hb
        omega
theorem bestF_goes {W : Nat → Nat} {G : Nat → Bool} (h0 : G 0 = true) : ∀ m, G (bestF W G m) = true
  | 0 => h0
  | m + 1 => by
    show G (if better W G (bestF W G m) m = true then m else bestF W G m) = true
    split
    · rename_i hb
      simp only [better, Bool.and_eq_true] at hb
      exact hb.1
    · exact bestF_goes h0 m
theorem bestN_lt (l : Ld) (c : Nat) : bestN l c < 2 ^ l.sacks.length := bestF_lt _ _ (Nat.two_pow_pos _)
theorem bestN_pk (l : Ld) (c : Nat) : ∃ k, k ≤ c ∧ Pk (rightB (openD l)) k (bestN l c) :=
  (goesB_iff c _ (bestN_lt l c)).1 (bestF_goes ((goesB_iff c 0 (Nat.two_pow_pos _)).2 ⟨0, Nat.zero_le _, .nil⟩) _)
theorem bestN_max {l : Ld} {c k s : Nat} (hs : s < 2 ^ l.sacks.length) (hk : k ≤ c) (h : Pk (rightB (openD l)) k s) : sumW (wts l) s ≤ sumW (wts l) (bestN l c) :=
  bestF_max ((goesB_iff c s hs).2 ⟨k, hk, h⟩) _ hs
theorem bestN_mono (l : Ld) {c c' : Nat} (h : c ≤ c') : sumW (wts l) (bestN l c) ≤ sumW (wts l) (bestN l c') := by
  obtain ⟨k, hk, hp⟩ := bestN_pk l c
  exact bestN_max (bestN_lt l c) (by omega) hp
theorem sumW_single' : ∀ (ws : List Nat) (i : Nat), sumW ws (2 ^ i) = ws.getD i 0
  | [], i => by simp [sumW]
  | w :: ws, 0 => by
    show (if (2 ^ 0) % 2 = 1 then w else 0) + sumW ws (2 ^ 0 / 2) = w
    rw [show 2 ^ 0 / 2 = 0 from rfl, sumW_zero]; simp
  | w :: ws, i + 1 => by
    show (if (2 ^ (i + 1)) % 2 = 1 then w else 0) + sumW ws (2 ^ (i + 1) / 2) = ws.getD i 0
    rw [if_neg (by rw [Nat.pow_succ]; omega), show 2 ^ (i + 1) / 2 = 2 ^ i by rw [Nat.pow_succ]; omega, sumW_single' ws i, Nat.zero_add]
theorem sumW_pos {l : Ld} (o : LdOk l) {s : Nat} (hs : s < 2 ^ l.sacks.length) (h : sumW (wts l) s = 0) : s = 0 := by
  refine bit_ext fun i => ?_
  rw [Nat.zero_testBit]
  cases hb : s.testBit i
  · rfl
  · exfalso
    have hi := bit_lt hs hb
    have h1 := sumW_split (wts l) s (2 ^ i) (sub_pow.2 hb)
    rw [sumW_single', wts_get l hi] at h1
    have := wt_le o (getD_mem (xs := l.sacks) (i := i) (d := default) hi)
    omega
theorem best_all {l : Ld} (o : LdOk l) {c : Nat} (hc : c ≤ 9) : sumW (wts l) (bestN l c) = (wts l).sum ↔ manyD (openD l) ≤ c := by
  have a := many_opt (openD l) o.n
  have hp := Nat.two_pow_pos l.sacks.length
  have hwl : (wts l).length = l.sacks.length := List.length_map _
  have hall : sumW (wts l) (2 ^ l.sacks.length - 1) = (wts l).sum := by rw [← sumW_all, hwl]
  have hsub : Sub (bestN l c) (2 ^ l.sacks.length - 1) := fun i hi => by
    have := bit_lt (bestN_lt l c) hi
    rw [Nat.testBit_two_pow_sub_one]; simpa using this
  have hsp := sumW_split (wts l) (2 ^ l.sacks.length - 1) (bestN l c) hsub
  constructor
  · intro h
    have hd : diff (2 ^ l.sacks.length - 1) (bestN l c) = 0 := sumW_pos o (Nat.lt_of_le_of_lt (diff_le _ _) (by omega)) (by omega)
    have he : bestN l c = 2 ^ l.sacks.length - 1 := bit_ext fun i => by
      have h1 := congrArg (·.testBit i) hd
      simp only [diff_bit, Nat.zero_testBit] at h1
      cases hb : (bestN l c).testBit i
      · rw [hb] at h1; simpa using h1.symm
      · exact (hsub i hb).symm
    obtain ⟨k, hk, hpk⟩ := bestN_pk l c
    rw [he] at hpk
    have := a.lo _ hpk
    omega
  · intro h
    have hpk := a.is (by omega)
    have := bestN_max (l := l) (c := c) (s := 2 ^ l.sacks.length - 1) (by omega) h hpk
    omega
theorem Pk.more {R : Nat → Bool} {k u c : Nat} (h : Pk R k u) (hc : R c = true) (hd : ∀ i, ¬ (u.testBit i = true ∧ c.testBit i = true)) : ∃ k', k' ≤ k + 1 ∧ Pk R k' (u ||| c) := by
  by_cases h0 : c = 0
  · subst h0; rw [Nat.or_zero]; exact ⟨k, by omega, h⟩
  · have e : diff (u ||| c) c = u := bit_ext fun i => by
      rw [diff_bit, Nat.testBit_or]
      have := hd i
      cases h1 : u.testBit i <;> cases h2 : c.testBit i <;> simp_all
    exact ⟨k + 1, Nat.le_refl _, .cons c hc (fun i hi => by rw [Nat.testBit_or, hi, Bool.or_true]) h0 (by rw [e]; exact h)⟩
theorem sumW_or (ws : List Nat) {u c : Nat} (hd : ∀ i, ¬ (u.testBit i = true ∧ c.testBit i = true)) : sumW ws (u ||| c) = sumW ws u + sumW ws c := by
  have h := sumW_split ws (u ||| c) c (fun i hi => by rw [Nat.testBit_or, hi, Bool.or_true])
  have e : diff (u ||| c) c = u := bit_ext fun i => by
    rw [diff_bit, Nat.testBit_or]
    have := hd i
    cases h1 : u.testBit i <;> cases h2 : c.testBit i <;> simp_all
  rw [e] at h; exact h.symm
def compN (is : List Int) (c : Nat) : Nat := setN (is.map fun i => c.testBit i.toNat)
theorem compN_bit (is : List Int) (c j : Nat) : (compN is c).testBit j = (decide (j < is.length) && c.testBit (is.getD j default).toNat) := by
  unfold compN
  rw [setN_bit, List.getD_eq_getElem?_getD, List.getElem?_map, List.getD_eq_getElem?_getD]
  by_cases h : j < is.length
  · rw [List.getElem?_eq_getElem h]; simp [h]
  · rw [List.getElem?_eq_none (by omega)]; simp [h]
theorem compN_lt (is : List Int) (c : Nat) : compN is c < 2 ^ is.length := by
  have := setN_lt (is.map fun i => c.testBit i.toNat)
  rwa [List.length_map] at this
theorem compN_diff (is : List Int) (a b : Nat) : compN is (diff a b) = diff (compN is a) (compN is b) := bit_ext fun j => by
  rw [compN_bit, diff_bit, diff_bit, compN_bit, compN_bit]
  cases decide (j < is.length) <;> simp
theorem compN_sub {is : List Int} {a b : Nat} (h : Sub a b) : Sub (compN is a) (compN is b) := fun j hj => by
  rw [compN_bit, Bool.and_eq_true] at hj ⊢
  exact ⟨hj.1, h _ hj.2⟩
theorem sumW_comp (w : Int → Nat) (c : Nat) : ∀ is : List Int, sumW (is.map w) (compN is c) = ((is.filter fun i => c.testBit i.toNat).map w).sum
  | [] => rfl
  | i :: is => by
    have ih := sumW_comp w c is
    have e : compN (i :: is) c = 2 * compN is c + (c.testBit i.toNat).toNat := rfl
    show (if compN (i :: is) c % 2 = 1 then w i else 0) + sumW (is.map w) (compN (i :: is) c / 2) = _
    rw [e, List.filter_cons]
    cases hb : c.testBit i.toNat
    · rw [if_neg (by show ¬ (2 * compN is c + 0) % 2 = 1; omega), if_neg (by simp), show (2 * compN is c + false.toNat) / 2 = compN is c by show (2 * compN is c + 0) / 2 = _; omega, ih]; simp
    · rw [if_pos (by show (2 * compN is c + 1) % 2 = 1; omega), if_pos rfl, show (2 * compN is c + true.toNat) / 2 = compN is c by show (2 * compN is c + 1) / 2 = _; omega, ih]; simp
theorem bits_filter {n s c : Nat} (hn : n ≤ 9) (hs : s < 2 ^ n) (h : Sub c s) : (bits s).filter (fun i => c.testBit i.toNat) = bits c := by
  have hc : c < 2 ^ n := Nat.lt_of_le_of_lt h.le hs
  rw [← bits_ls hn hs, ← bits_ls hn hc]
  unfold lsN lsK
  rw [boolN_len, boolN_len, List.filter_map, List.filter_filter]
  congr 1
  refine List.filter_congr fun i hi => ?_
  have hin := List.mem_range.1 hi
  rw [boolN_get hin, boolN_get hin]
  show (c.testBit ((i : Int)).toNat && s.testBit i) = c.testBit i
  rw [Int.toNat_natCast]
  cases hb : c.testBit i
  · rfl
  · rw [h i hb]; rfl
structure SubL (l u : Ld) (is : List Int) : Prop where
  b : u.bears = l.bears
  s : u.shrink = l.shrink
  k : u.sacks = is.map fun i => l.sacks.getD i.toNat default
  ap : ∀ p ∈ u.apart, ∃ q ∈ l.apart, q.1 = is.getD p.1.toNat default ∧ q.2 = is.getD p.2.toNat default
  wp : ∀ p ∈ u.wth, ∃ q ∈ l.wth, q.1 = is.getD p.1.toNat default ∧ q.2 = is.getD p.2.toNat default
theorem SubL.wts {l u : Ld} {is : List Int} (h : SubL l u is) : GA.wts u = is.map fun i => wt l (l.sacks.getD i.toNat default) := by
  unfold GA.wts
  rw [h.k, List.map_map]
  refine List.map_congr_left fun i _ => ?_
  show (weightR u _).toNat = (weightR l _).toNat
  unfold weightR; rw [h.s]
theorem SubL.sum {l u : Ld} {s : Nat} (o : LdOk l) (hs : s < 2 ^ l.sacks.length) (h : SubL l u (bits s)) {c : Nat} (hc : Sub c s) : sumW (GA.wts u) (compN (bits s) c) = sumW (GA.wts l) c := by
  have hcl : c < 2 ^ l.sacks.length := Nat.lt_of_le_of_lt hc.le hs
  rw [h.wts, sumW_comp, bits_filter o.n hs hc]
  have e := wsum_bits o hcl
  have : wsum l (bits c) = ((((bits c).map fun i => wt l (l.sacks.getD i.toNat default)).sum : Nat) : Int) := by
    unfold wsum
    have hb : ∀ x ∈ bits c, 0 ≤ x ∧ x < l.sacks.length := bits_in o.n hcl
    generalize bits c = xs at hb
    induction xs with
    | nil => rfl
    | cons x xs ih =>
      have hx := hb x List.mem_cons_self
      have hw := wt_le o (getD_mem (xs := l.sacks) (i := x.toNat) (d := default) (by omega))
      rw [List.map_cons, List.map_cons, List.sum_cons, List.sum_cons, Int.natCast_add, ← ih fun y hy => hb y (List.mem_cons_of_mem _ hy), hw.1]
      congr 1
      rw [List.getD_eq_getElem?_getD, List.getElem?_map, List.getD_eq_getElem?_getD, List.getElem?_eq_getElem (by omega)]; rfl
  omega
theorem SubL.right {l u : Ld} {s : Nat} (o : LdOk l) (hs : s < 2 ^ l.sacks.length) (h : SubL l u (bits s)) (hp : ∀ p ∈ u.apart, p.1.toNat < (bits s).length ∧ p.2.toNat < (bits s).length) (hq : ∀ p ∈ u.wth, p.1.toNat < (bits s).length ∧ p.2.toNat < (bits s).length) {c : Nat} (hc : Sub c s) (hr : RightP l c) : RightP u (compN (bits s) c) := by
  refine ⟨by rw [h.sum o hs hc, h.b]; exact hr.w, fun p hp' => ?_, fun p hp' => ?_⟩
  · obtain ⟨q, hq1, e1, e2⟩ := h.wp p hp'
    have := hq p hp'
    rw [compN_bit, compN_bit, ← e1, ← e2, hr.wp q hq1, decide_eq_true this.1, decide_eq_true this.2]
  · obtain ⟨q, hq1, e1, e2⟩ := h.ap p hp'
    rw [compN_bit, compN_bit, ← e1, ← e2]
    intro hh
    simp only [Bool.and_eq_true] at hh
    exact hr.ap q hq1 ⟨hh.1.2, hh.2.2⟩
theorem bits_pos {s c : Nat} (hs : s < 512) (h : Sub c s) (h0 : c ≠ 0) : compN (bits s) c ≠ 0 := fun e => by
  obtain ⟨i, hi⟩ : ∃ i, c.testBit i = true := Nat.exists_testBit_of_ne_zero h0
  have hm := (bits_iff hs (i : Int)).2 ⟨i, rfl, h i hi⟩
  obtain ⟨j, hj, he⟩ := List.mem_iff_getElem.1 hm
  have : (compN (bits s) c).testBit j = true := by
    rw [compN_bit, decide_eq_true hj, List.getD_eq_getElem?_getD, List.getElem?_eq_getElem hj, Option.getD_some, he, Int.toNat_natCast, hi]; rfl
  rw [e, Nat.zero_testBit] at this; cases this
theorem compN_all {s : Nat} (hs : s < 512) : compN (bits s) s = 2 ^ (bits s).length - 1 := bit_ext fun j => by
  rw [compN_bit, Nat.testBit_two_pow_sub_one]
  by_cases hj : j < (bits s).length
  · rw [decide_eq_true hj, Bool.true_and, List.getD_eq_getElem?_getD, List.getElem?_eq_getElem hj, Option.getD_some]
    obtain ⟨i, e, hi⟩ := (bits_iff hs _).1 (List.getElem_mem hj)
    rw [e, Int.toNat_natCast]; exact hi
  · rw [decide_eq_false hj]; rfl
theorem SubL.many {l u : Ld} {s k : Nat} (o : LdOk l) (ou : LdOk u) (hs : s < 2 ^ l.sacks.length) (h : SubL l u (bits s)) (hk : Pk (rightB (openD l)) k s) (hk9 : k ≤ 9) : manyD (openD u) ≤ k := by
  have hul : u.sacks.length = (bits s).length := by rw [h.k, List.length_map]
  have hp9 := pow9 o.n
  have hpk : ∀ (k t : Nat), Sub t s → Pk (rightB (openD l)) k t → Pk (rightB (openD u)) k (compN (bits s) t) := by
    intro k t ht hkt
    induction hkt with
    | nil => 
      have : compN (bits s) 0 = 0 := bit_ext fun j => by rw [compN_bit]; simp
      rw [this]; exact .nil
    | @cons n t c hr hsb h0 tl ih =>
      have hcs := hsb.trans ht
      have hcl : c < 2 ^ l.sacks.length := Nat.lt_of_le_of_lt hcs.le hs
      have h1 := ih ((sub_diff t c).trans ht)
      rw [compN_diff] at h1
      refine .cons (compN (bits s) c) ?_ (compN_sub hsb) (bits_pos (by omega) hcs h0) h1
      refine (right_iff ou (by rw [hul]; exact compN_lt _ _)).2 (h.right o hs (fun p hp => ?_) (fun p hp => ?_) hcs ((right_iff o hcl).1 hr))
      · have := ou.ap p hp; omega
      · have := ou.wp p hp; omega
  have hf := hpk k s (Sub.refl s) hk
  rw [compN_all (by omega), ← hul] at hf
  exact (many_opt (openD u) ou.n).lo _ hf
end GA
end

section
namespace GA
open Go Go.RowKit Go.ChangeShapes Go.WideShapes Go.ChangeAt Go.Proofs Go.Proofs.Ytinbgkoefajhbaa
set_option linter.unusedVariables false
set_option linter.unusedSimpArgs false

section
variable {P : Program} {w : World} {r : Reach} {base : Nat} {t : TypeId} {v : Value}
theorem okWide_len {e : TypeId} (ht : P.underlying t = some (.slice e)) (h : Value.okWide P w r base t v) : ∃ a len cap, v = .slice a len cap ∧ len < 9223372036854775808 := by
  simp only [Value.okWide, ht, Cell.okWide] at h
  cases v with
  | slice a len cap =>
    refine ⟨a, len, cap, rfl, ?_⟩
    cases a with
    | none =>
      cases len with
      | zero => omega
      | succ n => simp [Cell.ok, ht] at h
    | some a =>
      simp only [Cell.ok, ht] at h
      have h1 : IntKind.i64.max = 9223372036854775807 := by decide
      omega
  | _ => simp_all [Cell.ok]
theorem okWide_has {k : IntKind} (ht : P.underlying t = some (.int k)) (h : Value.okWide P w r base t v) : ∃ n, v = .int k n ∧ k.min ≤ n ∧ n ≤ k.max := by
  obtain ⟨n, rfl⟩ := okWide_int ht h
  refine ⟨n, rfl, ?_⟩
  simp only [Value.okWide, ht, Cell.okWide] at h
  simp only [Cell.ok, ht, IntKind.has] at h
  exact h.2
end
theorem rep_len {P : Program} {h : Nat → Option Obj} {β : Nat → Value} {H : List Blk} {nl : Bool} {els : List AV} {a : Option Addr} {len cap : Nat} (x : Rep P h β H (.sl nl els) (.slice a len cap)) : els.length = len := by
  cases x with
  | slnil => rfl
  | slemp => rfl
  | sl us h1 => exact h1.symm
theorem ownK : ownKnob Try.prog.godebug = none := by kernel_rfl
theorem oByte : Opens Try.prog 5 1 (fun a : {n : Int // IntKind.u8.min ≤ n ∧ n ≤ IntKind.u8.max} => [AV.int .u8 a.1]) := .int (by kernel_rfl) (by kernel_rfl)
theorem oBytes : Opens Try.prog 22 1 (fun p : Bool × List Int => [AV.sl p.1 (bytes p.2)]) :=
  (Opens.slice (t := 22) (by kernel_rfl) (by kernel_rfl) oByte (by decide) (fun a => .int .u8 a.1) (fun _ => rfl)).as (fun p => ⟨(p.1.1, p.1.2.map (·.1)), by simp [bytes]⟩) (fun _ => rfl)
end GA
end

section
namespace GA
open Go Go.RowKit
set_option linter.unusedVariables false

structure XNext (A : Prop) : Prop where
  o : A
section
variable {P : Program} {T : Tab} {N : Nat} {ρ : Option Nat} {D : List Nat} {σ : St} {H : List Blk} {Q : Post}

theorem SubX.app : ∀ {K L : List (Nat × AV)} {σ : St}, SubX K σ → SubX L σ → SubX (K ++ L) σ
  | [], _, _, _, h => h
  | (_, _) :: _, _, _, h, h2 => ⟨h.1, SubX.app h.2 h2⟩

theorem Walk.drawN {ops : List Oper} {id : Nat} (ok : TabOk P T) (hm : P.follows .mixedOrders = true) (own eff : List Nat) (HS : List Bool → List Blk) (R : List AV) (hs : Region.lexB .any ops.toArray = true) (hH : HS (eff.map fun _ => false) = H)
    (hA : ChkA P T N own ops eff HS 0 ops R σ) (hB : ChkB P T N own ops eff HS R σ (allF eff.length)) (hk : XNext (Q .normal D (xFold N ops R σ) (HS (eff.map fun j => Nat.blt j ops.length)))) : Walk P N ρ (.region id ops.toArray true) Q D σ H :=
  Walk.drawX ok hm own eff HS R hs hH hA hB hk.o

theorem Walk.loopK {c : Code} {G : Type} (ok : TabOk P T) (own : List Nat) (K : List (Nat × AV)) (hK : SubX K σ) (I : G → Prop) (L : G → List (Nat × AV)) (hp : G → List Blk) (μ : G → Nat) (g0 : G) (h0 : I g0) (hH : hp g0 = H) (hs : SubX (L g0) σ)
    (round : ∀ g, I g → XRun P T N ρ own c (thenQ (XAgain I (fun g => K ++ L g) hp μ g D) Q) D (stX (K ++ L g)) (hp g)) : Walk P N ρ (.loop c) Q D σ H :=
  Walk.loop ok own I (fun g => K ++ L g) hp μ g0 h0 hH (hK.app hs) round

theorem Walk.loopGK {c : Code} {G : Type} (ok : TabOk P T) (own : List Nat) (K : List (Nat × AV)) (hK : SubX K σ) (I : G → Prop) (L : G → List (Nat × AV)) (hp : G → List Blk) (μ : G → Nat) (g0 : G) (h0 : I g0) (hH : hp g0 = H) (hs : SubX (L g0) σ)
    (hlow : ∀ g, I g → (∀ x ∈ hp g, x.low (hp g).length = true) ∧ ∀ p ∈ K ++ L g, p.2.low (hp g).length = true) (hlen : ∀ g, I g → (hp g0).length ≤ (hp g).length)
    (round : ∀ g, I g → XRun P T N ρ own c (thenQ (XAgainG I (fun g => K ++ L g) hp μ g) Q) [] (stX (K ++ L g)) (hp g)) : Walk P N ρ (.loop c) Q [] σ H :=
  Walk.loopG ok own I (fun g => K ++ L g) hp μ g0 h0 hH (hK.app hs) hlow hlen round

theorem XAgainM.move {G : Type} {I : G → Prop} {L : G → List (Nat × AV)} {hp : G → List Blk} {μ : G → Nat} {base : Nat} {g : G} (g' : G) (A : List Blk) (x y : Blk) (u : Nat) (L0 : List (Nat × AV)) (h1 : I g') (h2 : μ g' < μ g) (h3 : hp g' = A ++ [y]) (h4 : H = A ++ [x, y])
    (h5 : L g' = (u, .ptr A.length 0) :: L0) (h6 : SubX L0 σ) (h7 : σ u = some (.ptr (A.length + 1) 0)) (hb : base ≤ A.length) (lA : ∀ z ∈ A, z.low A.length = true) (ly : y.low A.length = true) (lL : ∀ p ∈ L0, p.2.low A.length = true) : XAgainM I L hp μ base g [] σ H := by
  have hf : ∀ i, i < A.length → (fun i => if i = A.length then A.length + 1 else i) i = i := fun i hi => by simp only; rw [if_neg (by omega)]
  refine ⟨g', fun i => if i = A.length then A.length + 1 else i, h1, h2, ⟨List.nodup_nil, fun i hi => by simp at hi, fun i _ hi => by simp at hi⟩, ?_⟩
  rw [h3, h4]
  refine ⟨fun i j hi hj e => ?_, fun i hi => hf i (by omega), by simp; omega, fun i x1 e => ?_, fun i x1 hi e => ?_, fun z hz => ?_, fun t r e => ?_⟩
  · split at e <;> split at e <;> simp only [List.length_append, List.length_cons, List.length_nil] at hi hj <;> omega
  · rcases Nat.lt_or_ge i A.length with hi | hi
    · rw [List.getElem?_append_left hi] at e
      rw [if_neg (show ¬ i = A.length by omega), List.getElem?_append_left hi, e, Blk.ren_low hf (lA _ (List.mem_of_getElem? e))]
    · have hi2 : i = A.length := by
        have := (List.getElem?_eq_some_iff.1 e).1
        simp only [List.length_append, List.length_cons, List.length_nil] at this; omega
      subst hi2
      rw [List.getElem?_append_right (Nat.le_refl _), Nat.sub_self] at e
      cases e
      simp only [if_true]
      rw [List.getElem?_append_right (by omega), show A.length + 1 - A.length = 1 by omega, Blk.ren_low hf ly]; rfl
  · have hi2 : i < A.length := by omega
    rw [List.getElem?_append_left hi2] at e
    exact Blk.ren_low hf (lA _ (List.mem_of_getElem? e))
  · rw [List.mem_append, List.mem_singleton] at hz
    rcases hz with hz | rfl
    · exact GA.low_mono (by simp) (lA z hz)
    · exact GA.low_mono (by simp) ly
  · rw [h5] at e
    have hlen : A.length ≤ (A ++ [y]).length := by simp
    rcases List.mem_cons.1 (stX_mem _ _ _ e) with e1 | e1
    · cases e1
      refine ⟨?_, by simp [AV.low]⟩
      rw [h7]; simp only [AV.ren, if_true]
    · have h8 := lL _ e1
      refine ⟨?_, AV.low_mono hlen h8⟩
      rw [AV.ren_low hf h8]
      simp only [stX, updX_eq, upd] at e
      split at e
      · rename_i h9
        cases e
        simp only [AV.low, decide_eq_true_eq] at h8; omega
      · exact stX_sub h6 t r e
theorem yieldMono {i : Nat} {rs : List AV} {k k' : AV → List Blk → Prop} (x : AYield P i rs H k) (hk : ∀ r H', k r H' → k' r H') : AYield P i rs H k' :=
  ⟨x.1, fun E h β w b vs s r e => let ⟨f, tmps, assign, body, h1, h2⟩ := x.2 E h β w b vs s r e; ⟨f, tmps, assign, body, h1, h2.mono fun _ _ => Ends.mono hk⟩⟩
def IterL (P : Program) (i : Nat) (K : List Blk → Prop) : List Nat → List Blk → Prop
  | [], H => K H
  | c :: cs, H => XYield P i [.int .i64 (c : Int)] H fun r H' => (r = .bool true ∧ IterL P i K cs H') ∨ (r = .bool false ∧ K H')
theorem IterL.run {i : Nat} {K : List Blk → Prop} {S : Type} (upd : S → List Blk) (step : S → Nat → S) (I : S → List Nat → Prop)
    (x : ∀ s c cs, I s (c :: cs) → XYield P i [.int .i64 (c : Int)] (upd s) (fun r H' => r = .bool true ∧ H' = upd (step s c)) ∧ I (step s c) cs) :
    ∀ (cs : List Nat) (s : S), I s cs → K (upd (cs.foldl step s)) → IterL P i K cs (upd s)
  | [], s, _, hk => hk
  | c :: cs, s, hI, hk => by
    obtain ⟨h1, h2⟩ := x s c cs hI
    refine ⟨yieldMono h1.o ?_⟩
    rintro r H' ⟨rfl, rfl⟩
    exact .inl ⟨rfl, IterL.run upd step I x cs _ h2 hk⟩
theorem IterL.go {i : Nat} {K : List Blk → Prop} {S : Type} {cs : List Nat} (upd : S → List Blk) (step : S → Nat → S) (I : S → List Nat → Prop) (s0 : S) (hH : upd s0 = H)
    (x : ∀ s c cs, I s (c :: cs) → XYield P i [.int .i64 (c : Int)] (upd s) (fun r H' => r = .bool true ∧ H' = upd (step s c)) ∧ I (step s c) cs) (hI : I s0 cs) (hk : K (upd (cs.foldl step s0))) : IterL P i K cs H := by
  have := IterL.run upd step I x cs s0 hI hk
  rwa [hH] at this
end

section
variable {α : Type}
variable {f : α → AV}
end
end GA
end

section
namespace GA
open Go Go.RowKit
set_option linter.unusedVariables false
section
variable {P : Program} {N : Nat} {ρ : Option Nat} {H : List Blk} {σ : St} {D : List Nat}

theorem flat_one : ∀ {els : List AV}, (∀ x ∈ els, x.one = true) → flat els = els
  | [], _ => rfl
  | x :: l, h => by
    have h1 := h x List.mem_cons_self
    have h2 := flat_one (els := l) fun y hy => h y (List.mem_cons_of_mem _ hy)
    have h3 : x.cells = [x] := by cases x <;> first | rfl | cases h1
    show x.cells ++ flat l = _
    rw [h3, h2]; rfl
theorem cells_one {x : AV} (h : x.one = true) : x.cells = [x] := by cases x <;> first | rfl | cases h

theorem Walk.run {T : Tab} {c : Code} {Q : Post} (ok : TabOk P T) (own : List Nat) (x : XRun P T N ρ own c Q D σ H) : Walk P N ρ c Q D σ H := ⟨XRun.sound ok x⟩
theorem XGet.set {els : List AV} {n e m : Nat} {x : AV} {k : List AV → Prop} (he : e = m) (hm : m < els.length) (hn : n = els.length) (h : k x.cells) : XGet (els.set m x) n e k := by
  subst he
  refine ⟨by rw [List.length_set]; exact hn, by omega, ?_⟩
  have : (els.set e x).getD e default = x := by rw [List.getD_eq_getElem?_getD, List.getElem?_set_self hm]; rfl
  rw [this]; exact h
theorem XPut.set {els : List AV} {n e m : Nat} {x v : AV} {k : List AV → Prop} (he : e = m) (hm : m < els.length) (hn : n = els.length) (h : k (els.set m v)) : XPut (els.set m x) n e v k := by
  subst he
  exact ⟨by rw [List.length_set]; exact hn, by omega, by rw [List.set_set]; exact h⟩
theorem FrozN.sl {n : Nat} {nl : Bool} {els els' : List AV} (hone : ∀ x ∈ els, x.one = true) (hone' : ∀ x ∈ els', x.one = true) (hs : FrozNL P n H els els') : FrozN P n H (.sl nl els) (.sl nl els') := by
  intro E h β w s v hr H1
  cases hr with
  | slnil =>
    have : els' = [] := List.eq_nil_of_length_eq_zero hs.1
    subst this; exact .slnil
  | slemp =>
    have : els' = [] := List.eq_nil_of_length_eq_zero hs.1
    subst this; exact .slemp
  | sl us hn hne hb hw hw0 ho hcap hc h3 =>
    rw [flat_one hone] at hc h3
    obtain ⟨e0, he0⟩ := List.exists_mem_of_ne_nil _ hne
    have hw1 := hw e0 he0
    rw [cells_one (hone e0 he0)] at hw1
    refine .sl us (by rw [hn, hs.1]) (fun e => hne (List.eq_nil_of_length_eq_zero (by rw [← hs.1, e]; rfl))) (hallN_imm s hb) (fun e he => by rw [cells_one (hone' e he)]; exact hw1) hw0 (fun x hx => ?_) (by rw [hs.1]; exact hcap) (fun j x e => ?_) (fun j x e => ?_)
    · rw [flat_one hone'] at hx; exact hone' x hx
    · rw [flat_one hone'] at e
      obtain ⟨y, e1, _⟩ := hs.2 j x e; exact hc j y e1
    · rw [flat_one hone'] at e
      obtain ⟨y, e1, e2⟩ := hs.2 j x e; exact e2 E h β w s _ (h3 j y e1) H1
end
end GA
end

section
namespace GA
open Go Go.RowKit
set_option linter.unusedVariables false
section
variable {P : Program} {N : Nat} {ρ : Option Nat} {H : List Blk} {σ : St} {D : List Nat} {Q : Post}

structure XFrz (u i n : Nat) (σ : St) (H : List Blk) (k : St → List Blk → Prop) : Prop where
  o : ∃ t nl els, σ u = some (.gr i n) ∧ lget H i = some (.grow t nl els) ∧ els.length = n ∧ k (updX σ u (.sl nl els)) (H.set i .dead)
theorem XFrz.go {u i n : Nat} {k : St → List Blk → Prop} {t : TypeId} {nl : Bool} {els : List AV} (hu : σ u = some (.gr i n)) (hi : lget H i = some (.grow t nl els)) (hn : els.length = n) (x : k (updX σ u (.sl nl els)) (H.set i .dead)) : XFrz u i n σ H k := ⟨t, nl, els, hu, hi, hn, x⟩
end
end GA
end

section
namespace GA
open Go Go.RowKit
set_option linter.unusedVariables false
section
variable {P : Program} {N : Nat} {ρ : Option Nat} {H : List Blk} {σ : St} {D : List Nat} {Q : Post} {E : Env} {h : Nat → Option Obj} {β : Nat → Value} {a : Act} {w : World}

theorem keep_stands (H1 l : List Blk) (L : List (Nat × AV)) (hlow : ∀ x ∈ H1, x.low H1.length = true) (hs : SubF P H1.length (H1 ++ l) L σ) (s : Stands P E N h β D σ (H1 ++ l) a w) :
    ∃ h', Ext h β (H1 ++ l) h' β (H1 ++ l.map fun _ => .dead) ∧ Stands P E N h' β D (stX L) (H1 ++ l.map fun _ => .dead) a w := by
  have hd : ∀ (l : List Blk) (i : Nat) x, (l.map fun _ => Blk.dead)[i]? = some x → x = .dead := fun l i x e => by
    rw [List.getElem?_map] at e
    cases hx : l[i]? with
    | none => rw [hx] at e; cases e
    | some y => rw [hx] at e; cases e; rfl
  have X : Ext h β (H1 ++ l) (hallN H1.length h β (H1 ++ l) w) β (H1 ++ l.map fun _ => .dead) := by
    refine ⟨fun b o e => hallN_imm s.sr e, by simp, fun i x x' e e' => ?_⟩
    by_cases hi : i < H1.length
    · rw [List.getElem?_append_left hi] at e e'
      rw [e] at e'; cases e'; exact Blk.to_refl _ _ _
    · rw [List.getElem?_append_right (by omega)] at e'
      have := hd _ _ _ e'
      subst this
      cases x <;> first | rfl | trivial | exact .inl rfl
  have s1 := s.sr.allN hlow
  have X1 : Ext (hallN H1.length h β (H1 ++ l) w) β H1 (hallN H1.length h β (H1 ++ l) w) β (H1 ++ l.map fun _ => .dead) :=
    ⟨fun _ _ e => e, by simp, fun i x x' e e' => by rw [List.getElem?_append_left (List.getElem?_eq_some_iff.1 e).1, e] at e'; cases e'; exact Blk.to_refl _ _ _⟩
  have hbo : ∀ i b, blkOf β (H1 ++ l.map fun _ => .dead) i = some b → blkOf β H1 i = some b := fun i b e => by
    have hlt := (blkOf_some e).1
    by_cases hi : i < H1.length
    · rw [← e]; exact (blkOf_congr rfl (List.getElem?_append_left hi)).symm
    · exfalso
      unfold blkOf at e
      cases hx : (H1 ++ l.map fun _ => Blk.dead)[i]? with
      | none => rw [hx] at e; cases e
      | some x =>
        rw [hx] at e
        rw [List.getElem?_append_right (by omega)] at hx
        have := hd _ _ _ hx
        subst this; cases e
  have s2 : SR P E (hallN H1.length h β (H1 ++ l) w) β (H1 ++ l.map fun _ => .dead) w := by
    refine s1.grown X1 s1.env s1.imm (fun i x e => ?_) (fun i j b e1 e2 => s1.own i j b (hbo _ _ e1) (hbo _ _ e2)) (fun i b e => s1.fresh i b (hbo _ _ e)) s1.frm (fun i b e => s1.fro i b (hbo _ _ e))
    by_cases hi : i < H1.length
    · rw [List.getElem?_append_left hi] at e; exact .inl ⟨e, rfl, fun _ _ => rfl⟩
    · rw [List.getElem?_append_right (by omega)] at e
      have := hd _ _ _ e
      subst this; exact .inr trivial
  refine ⟨_, X, ⟨s2, fun t r e => ?_, s.size, s.df.ext X⟩⟩
  obtain ⟨r0, e1, e2⟩ := stX_subF hs t r e
  obtain ⟨v, h1, h2⟩ := s.fits t r0 e1
  rcases e2 with e2 | ⟨rfl, e2⟩
  · exact ⟨v, h1, e2 E h β w s.sr v h2 _⟩
  · refine ⟨v, h1, X1.rep (Rep.cut (l := l) ?_ e2)⟩
    have XA : Ext h β (H1 ++ l) (hallN H1.length h β (H1 ++ l) w) β (H1 ++ l) := ⟨fun b o e => hallN_imm s.sr e, Nat.le_refl _, fun i x x' e e' => by rw [e] at e'; cases e'; exact Blk.to_refl _ _ _⟩
    exact XA.rep h2
structure XKeepE (P : Program) (σ : St) (H : List Blk) (k : St → List Blk → Prop) : Prop where
  o : ∃ (H1 l : List Blk) (L : List (Nat × AV)), H1 ++ l = H ∧ (∀ x ∈ H1, x.low H1.length = true) ∧ SubF P H1.length H L σ ∧ k (stX L) (H1 ++ l.map fun _ => .dead)
theorem XKeepE.go {k : St → List Blk → Prop} (H1 l : List Blk) (L : List (Nat × AV)) (hH : H1 ++ l = H) (hlow : ∀ x ∈ H1, x.low H1.length = true) (hs : SubF P H1.length H L σ) (x : k (stX L) (H1 ++ l.map fun _ => .dead)) : XKeepE P σ H k := ⟨H1, l, L, hH, hlow, hs, x⟩
def keepQ (P : Program) (Q : Post) : Post
  | .exit id, D, σ, H => XKeepE P σ H (Q (.exit id) D)
  | e, D, σ, H => Q e D σ H
theorem Walk.thenKeep {c : Code} (x : Walk P N ρ c (keepQ P Q) D σ H) : Walk P N ρ c Q D σ H := by
  constructor
  intro E h β a w s
  refine wpIn_mono (x.o E h β a w s) fun e a' w' hc => ?_
  obtain ⟨D', σ', H', h', β', q, X, s'⟩ := hc
  cases e with
  | exit id =>
    obtain ⟨H1, l, L, rfl, hlow, hs, q⟩ := q.o
    obtain ⟨h'', X1, s1⟩ := keep_stands H1 l L hlow hs s'
    exact ⟨D', _, _, h'', β', q, X.trans X1, s1⟩
  | _ => exact ⟨D', σ', H', h', β', q, X, s'⟩
theorem hallN_zero {h : Nat → Option Obj} {β : Nat → Value} {H : List Blk} {w : World} : hallN 0 h β H w = hall h β H w := by
  funext b
  by_cases hx : ∃ i, blkOf β H i = some b
  · obtain ⟨i, hi⟩ := hx
    rw [hallN_own (Nat.zero_le i) hi]
    unfold hall; rw [if_pos ⟨i, hi⟩]
  · unfold hallN hall
    rw [if_neg hx, if_neg (fun ⟨i, _, h⟩ => hx ⟨i, h⟩)]
theorem Froz.n0 {r r' : AV} (f : Froz P H r r') : FrozN P 0 H r r' := fun E h β w s v hr H1 => by
  rw [hallN_zero]
  exact (f E h β w s v hr).none
theorem XKeep.all {r r' : AV} (f : Froz P H r r') : XKeep P 0 H r r' := .inl f.n0
end
end GA
end

section
namespace GA
open Go Go.RowKit
set_option linter.unusedVariables false
section
variable {P : Program} {N : Nat} {ρ : Option Nat} {H : List Blk} {σ : St} {D : List Nat} {Q : Post}
structure XDo (P : Program) (N : Nat) (D : List Nat) (σ : St) (H : List Blk) (K : St → List Blk → Prop) : Prop where
  o : ∀ E h β a w, Stands P E N h β D σ H a w → ∃ σ' H' h' β', K σ' H' ∧ Ext h β H h' β' H' ∧ Stands P E N h' β' D σ' H' a w
theorem XDo.run {K : St → List Blk → Prop} (x : K σ H) : XDo P N D σ H K := ⟨fun E h β a w s => ⟨σ, H, h, β, x, Ext.refl _ _ _, s⟩⟩
theorem Walk.seq {a b : Code} (x : Walk P N ρ a (thenQ (fun D σ H => Walk P N ρ b Q D σ H) Q) D σ H) : Walk P N ρ (.seq a b) Q D σ H :=
  ⟨AWp.seq (AWp.mono x.o fun e D σ H q => by cases e <;> first | exact q.o | exact q)⟩
end
end GA
end

section
namespace GA
open Go Go.RowKit
set_option linter.unusedVariables false

def tailC : Nat → Code → Code
  | n + 1, .seq _ b => tailC n b
  | _, c => c
def theC : Option Code → Code
  | some c => c
  | none => .skip
theorem Walk.heapX {P : Program} {N : Nat} {r : Option Nat} {c : Code} {Q : Post} {D : List Nat} {σ : St} {H : List Blk} (H' : List Blk) (h : H' = H) (x : Walk P N r c Q D σ H') : Walk P N r c Q D σ H := h ▸ x
def innerC : Code → Code
  | .seq (.seq _ (.block _ c)) _ => c
  | c => c
theorem blockX_then {id : Nat} {K : List Nat → St → List Blk → Prop} {Q : Post} {D : List Nat} {σ : St} {H : List Blk} (h : K D σ H) : blockX id (thenQ K Q) (.exit id) D σ H := by
  show (match Nat.beq id id with | true => thenQ K Q .normal D σ H | false => thenQ K Q (.exit id) D σ H)
  rw [Nat.beq_refl]; exact h
end GA
end

section
namespace GA
open Go Go.RowKit Go.Proofs
set_option maxRecDepth 8000
set_option linter.unusedVariables false
set_option linter.unusedSimpArgs false

theorem Pk.mono1 {R R' : Nat → Bool} {n set : Nat} (h : Pk R n set) (hR : ∀ c, Sub c set → R c = true → R' c = true) : Pk R' n set := by
  induction h with
  | nil => exact .nil
  | cons c hr hs h0 t ih => exact .cons c (hR c hs hr) hs h0 (ih fun c' hc' => hR c' (hc'.trans (sub_diff _ _)))
theorem many_le1 {l u : Ld} (ol : LdOk l) (ou : LdOk u) (hn : u.sacks.length = l.sacks.length) (hR : ∀ c, c < 2 ^ l.sacks.length → RightP l c → RightP u c) : manyD (openD u) ≤ manyD (openD l) := by
  have a := many_opt (openD l) ol.n
  have b := many_opt (openD u) ou.n
  rcases Nat.lt_or_ge (manyD (openD l)) 10 with h | h
  · refine b.lo _ ?_
    have e : allD (openD u) = allD (openD l) := by show 2 ^ u.sacks.length - 1 = 2 ^ l.sacks.length - 1; rw [hn]
    rw [e]
    refine (a.is h).mono1 fun c hc hr => ?_
    have hlt : c < 2 ^ l.sacks.length := by
      have := hc.le; have := Nat.two_pow_pos l.sacks.length
      have : c ≤ 2 ^ l.sacks.length - 1 := hc.le
      omega
    exact (right_iff ou (by rw [hn]; exact hlt)).2 (hR c hlt ((right_iff ol hlt).1 hr))
  · have := b.le; omega
theorem leastB_spec {G : Int → Bool} : ∀ {f : Nat} {b x : Int}, leastB G f b = some x → b ≤ x ∧ x < b + f ∧ G x = true ∧ ∀ y, b ≤ y → y < x → G y = false
  | 0, b, x, h => by cases h
  | f + 1, b, x, h => by
    rw [leastB] at h
    split at h
    · rename_i hg
      cases h
      exact ⟨Int.le_refl _, by omega, hg, fun y h1 h2 => by omega⟩
    · rename_i hg
      obtain ⟨h1, h2, h3, h4⟩ := leastB_spec h
      refine ⟨by omega, by omega, h3, fun y g1 g2 => ?_⟩
      by_cases e : y = b
      · subst e; simpa using hg
      · exact h4 y (by omega) g2
def uL (l : Ld) (b : Int) : Ld := ownL (bigL l b)
theorem uL_ok {l : Ld} (o : LdOk l) {b : Int} (h : 1 ≤ b ∧ b ≤ 100) : LdOk (uL l b) := ⟨o.n, o.na, o.nw, h.1, h.2, o.s1, o.s2, o.sk, o.ap, o.wp⟩
theorem uL_W {l : Ld} (w : LdW l) (b : Int) : LdW (uL l b) := ⟨fun h => (by cases h), w.h1, w.h2, w.h3⟩
theorem uL_many {l : Ld} (o : LdOk l) {b : Int} (h : 1 ≤ b ∧ b ≤ 100) : manyD (openD (uL l b)) = manyD (openD (bigL l b)) :=
  Nat.le_antisymm (many_le1 (bigL_ok o h) (uL_ok o h) rfl fun c _ hr => ⟨hr.w, hr.wp, hr.ap⟩) (many_le1 (uL_ok o h) (bigL_ok o h) rfl fun c _ hr => ⟨hr.w, hr.wp, hr.ap⟩)
theorem big_spec {l : Ld} (o : LdOk l) {c : Nat} (hc : c ≤ 9) {b : Int} (h : bigR l c = some b) : 1 ≤ b ∧ b ≤ 100 ∧ manyD (openD (uL l b)) ≤ c ∧ ∀ y, 1 ≤ y → y < b → c < manyD (openD (uL l y)) := by
  obtain ⟨h1, h2, h3, h4⟩ := leastB_spec h
  have hb : 1 ≤ b ∧ b ≤ 100 := by omega
  refine ⟨hb.1, hb.2, ?_, fun y g1 g2 => ?_⟩
  · rw [allGo_many o hc hb, decide_eq_true_eq] at h3
    rw [uL_many o hb]; exact h3
  · have := h4 y g1 g2
    rw [allGo_many o hc ⟨g1, by omega⟩, decide_eq_false_iff_not] at this
    rw [uL_many o ⟨g1, by omega⟩]; omega
end GA
end

section
namespace GA
open Go Go.RowKit Go.Proofs
set_option maxRecDepth 8000
set_option linter.unusedVariables false
set_option linter.unusedSimpArgs false

theorem bits_nd {n s : Nat} (hn : n ≤ 9) (h : s < 2 ^ n) : (bits s).Nodup := (bits_asc hn h).imp fun h e => by omega
theorem ints_lenG (xs : List Int) : (ints xs).length = xs.length := List.length_map _
theorem asc_len {n : Int} : ∀ {L : List Int} {a : Int}, L.Pairwise (· < ·) → (∀ x ∈ L, a ≤ x ∧ x < n) → a ≤ n → (L.length : Int) ≤ n - a
  | [], a, _, _, h => by rw [List.length_nil]; omega
  | x :: L, a, hp, h, hn => by
    rw [List.pairwise_cons] at hp
    have hx := h x List.mem_cons_self
    have := asc_len (a := a + 1) hp.2 (fun y hy => ⟨by have := hp.1 y hy; omega, (h y (List.mem_cons_of_mem _ hy)).2⟩) (by omega)
    rw [List.length_cons]; omega
def mpE (B : List Int) : Nat → List (Int × AV)
  | 0 => []
  | k + 1 => mpE B k ++ [(B.getD k default, natA k)]
theorem mpE_len (B : List Int) : ∀ k, (mpE B k).length = k
  | 0 => rfl
  | k + 1 => by rw [mpE, List.length_append, mpE_len B k]; rfl
theorem mput_new {n : Int} {v : AV} : ∀ {es : List (Int × AV)}, (∀ p ∈ es, p.1 ≠ n) → mput n v es = es ++ [(n, v)]
  | [], _ => rfl
  | (m, u) :: es, h => by
    rw [mput, if_neg (h (m, u) List.mem_cons_self), mput_new fun p hp => h p (List.mem_cons_of_mem _ hp)]; rfl
theorem mget_snoc {n m : Int} {u : AV} : ∀ {es : List (Int × AV)}, mget n (es ++ [(m, u)]) = match mget n es with | some v => some v | none => if m = n then some u else none
  | [] => by
    show mget n [(m, u)] = _
    rw [mget, mget, mget]
  | (a, b) :: es => by
    show mget n ((a, b) :: (es ++ [(m, u)])) = _
    rw [mget, mget]
    by_cases h : a = n
    · rw [if_pos h, if_pos h]
    · rw [if_neg h, if_neg h]; exact mget_snoc
theorem mpE_mem {B : List Int} {p : Int × AV} : ∀ {k : Nat}, p ∈ mpE B k → ∃ j, j < k ∧ p = (B.getD j default, natA j)
  | 0, h => by cases h
  | k + 1, h => by
    rw [mpE] at h
    rcases List.mem_append.1 h with h | h
    · obtain ⟨j, h1, h2⟩ := mpE_mem h
      exact ⟨j, by omega, h2⟩
    · rw [List.mem_singleton] at h
      exact ⟨k, by omega, h⟩
theorem mpE_low (B : List Int) (n : Nat) : ∀ k, (Blk.map (mpE B k)).low n = true := fun k => by
  show lowL n ((mpE B k).map (·.2)) = true
  rw [lowL_iff]
  intro x hx
  obtain ⟨p, hp, rfl⟩ := List.mem_map.1 hx
  obtain ⟨j, -, rfl⟩ := mpE_mem hp
  rfl
theorem getD_inj {B : List Int} (nd : B.Nodup) {i j : Nat} (hi : i < B.length) (hj : j < B.length) (e : B.getD i default = B.getD j default) : i = j := by
  rw [List.getD_eq_getElem?_getD, List.getD_eq_getElem?_getD, List.getElem?_eq_getElem hi, List.getElem?_eq_getElem hj] at e
  exact (List.getElem_inj nd).1 e
theorem mpE_put {B : List Int} (nd : B.Nodup) {k : Nat} (hk : k < B.length) : mput (B.getD k default) (natA k) (mpE B k) = mpE B (k + 1) := by
  rw [mpE]
  refine mput_new fun p hp e => ?_
  obtain ⟨j, hj, rfl⟩ := mpE_mem hp
  have := getD_inj nd (by omega) hk e
  omega
theorem idxOf_getD {B : List Int} (nd : B.Nodup) {k : Nat} (hk : k < B.length) : B.idxOf (B.getD k default) = k := by
  have h2 : B.getD k default ∈ B := getD_mem hk
  have h3 := List.idxOf_lt_length_of_mem h2
  have h4 := List.getElem_idxOf h3
  have h5 : B.getD k default = B[k] := by rw [List.getD_eq_getElem?_getD, List.getElem?_eq_getElem hk]; rfl
  exact (List.getElem_inj nd).1 (h4.trans h5)
theorem getD_idxOf {B : List Int} {x : Int} (h : x ∈ B) : B.getD (B.idxOf x) default = x := by
  have h3 := List.idxOf_lt_length_of_mem h
  rw [List.getD_eq_getElem?_getD, List.getElem?_eq_getElem h3, Option.getD_some]
  exact List.getElem_idxOf h3
theorem mpE_getK {B : List Int} (nd : B.Nodup) (x : Int) : ∀ k, k ≤ B.length → mget x (mpE B k) = if x ∈ B.take k then some (natA (B.idxOf x)) else none
  | 0, _ => by rw [List.take_zero, if_neg (by simp)]; rfl
  | k + 1, hk => by
    rw [mpE, mget_snoc, mpE_getK nd x k (by omega), take_next (by omega)]
    by_cases h : x ∈ B.take k
    · rw [if_pos h, if_pos (List.mem_append_left _ h)]
    · rw [if_neg h]
      by_cases e : B.getD k default = x
      · rw [if_pos (List.mem_append_right _ (by rw [List.mem_singleton]; exact e.symm))]
        show (if B.getD k default = x then some (natA k) else none) = _
        rw [if_pos e, ← e, idxOf_getD nd (by omega)]
      · rw [if_neg (fun hm => (List.mem_append.1 hm).elim h fun hm => e (List.mem_singleton.1 hm).symm)]
        show (if B.getD k default = x then some (natA k) else none) = none
        rw [if_neg e]
theorem mpE_get {B : List Int} (nd : B.Nodup) (x : Int) : mget x (mpE B B.length) = if x ∈ B then some (natA (B.idxOf x)) else none := by
  rw [mpE_getK nd x _ (Nat.le_refl _), List.take_length]
def prF (B : List Int) (ps : List (Int × Int)) : List (Int × Int) := (ps.filter fun p => decide (p.1 ∈ B ∧ p.2 ∈ B)).map fun p => ((B.idxOf p.1 : Int), (B.idxOf p.2 : Int))
theorem prF_next {B : List Int} {ps : List (Int × Int)} {k : Nat} (hk : k < ps.length) : prF B (ps.take (k + 1)) = if (ps.getD k default).1 ∈ B ∧ (ps.getD k default).2 ∈ B then prF B (ps.take k) ++ [((B.idxOf (ps.getD k default).1 : Int), (B.idxOf (ps.getD k default).2 : Int))] else prF B (ps.take k) := by
  unfold prF
  rw [take_next hk, List.filter_append, List.map_append]
  by_cases h : (ps.getD k default).1 ∈ B ∧ (ps.getD k default).2 ∈ B
  · rw [if_pos h, List.filter_cons_of_pos (by rw [decide_eq_true h]), List.filter_nil]; rfl
  · rw [if_neg h, List.filter_cons_of_neg (by rw [decide_eq_false h]; simp), List.filter_nil, List.map_nil, List.append_nil]
theorem prF_mem {B : List Int} {ps : List (Int × Int)} {p : Int × Int} (h : p ∈ prF B ps) : ∃ q ∈ ps, q.1 ∈ B ∧ q.2 ∈ B ∧ p = ((B.idxOf q.1 : Int), (B.idxOf q.2 : Int)) := by
  obtain ⟨q, hq, rfl⟩ := List.mem_map.1 h
  rw [List.mem_filter, decide_eq_true_eq] at hq
  exact ⟨q, hq.1, hq.2.1, hq.2.2, rfl⟩
theorem prF_len (B : List Int) (ps : List (Int × Int)) : (prF B ps).length ≤ ps.length := by
  unfold prF; rw [List.length_map]; exact List.length_filter_le _ _
def subL (l : Ld) (B : List Int) : Ld := ⟨l.bears, l.shrink, B.isEmpty, B.map fun i => l.sacks.getD i.toNat default, (prF B l.apart).isEmpty, prF B l.apart, (prF B l.wth).isEmpty, prF B l.wth⟩
theorem prF_ok {n : Nat} {B : List Int} {ps : List (Int × Int)} (h : ∀ p ∈ ps, 0 ≤ p.1 ∧ p.1 < n ∧ 0 ≤ p.2 ∧ p.2 < n ∧ p.1 ≠ p.2) : ∀ p ∈ prF B ps, 0 ≤ p.1 ∧ p.1 < B.length ∧ 0 ≤ p.2 ∧ p.2 < B.length ∧ p.1 ≠ p.2 := fun p hp => by
  obtain ⟨q, hq, h1, h2, rfl⟩ := prF_mem hp
  have g1 := List.idxOf_lt_length_of_mem h1
  have g2 := List.idxOf_lt_length_of_mem h2
  have hne := (h q hq).2.2.2.2
  dsimp only
  refine ⟨by omega, by omega, by omega, by omega, fun e => hne ?_⟩
  rw [← getD_idxOf h1, ← getD_idxOf h2, show B.idxOf q.1 = B.idxOf q.2 by omega]
theorem subL_ok {l : Ld} (o : LdOk l) {B : List Int} (hl : B.length ≤ 9) (hB : ∀ x ∈ B, 0 ≤ x ∧ x < l.sacks.length) : LdOk (subL l B) := by
  refine ⟨by show (B.map _).length ≤ 9; rw [List.length_map]; exact hl, Nat.le_trans (prF_len _ _) o.na, Nat.le_trans (prF_len _ _) o.nw, o.b1, o.b2, o.s1, o.s2, fun s hs => ?_, ?_, ?_⟩
  · obtain ⟨i, hi, rfl⟩ := List.mem_map.1 (show s ∈ B.map _ from hs)
    have := hB i hi
    exact o.sk _ (getD_mem (by omega))
  · show ∀ p ∈ prF B l.apart, 0 ≤ p.1 ∧ p.1 < (B.map _).length ∧ 0 ≤ p.2 ∧ p.2 < (B.map _).length ∧ p.1 ≠ p.2
    rw [List.length_map]; exact prF_ok o.ap
  · show ∀ p ∈ prF B l.wth, 0 ≤ p.1 ∧ p.1 < (B.map _).length ∧ 0 ≤ p.2 ∧ p.2 < (B.map _).length ∧ p.1 ≠ p.2
    rw [List.length_map]; exact prF_ok o.wp
theorem subL_W {l : Ld} (o : LdOk l) {B : List Int} (hl : B.length ≤ 9) : LdW (subL l B) :=
  ⟨fun h => List.isEmpty_iff.1 h, by show (B.map _).length ≤ 100000; rw [List.length_map]; omega, by have := prF_len B l.apart; have := o.na; show (prF B l.apart).length ≤ 1000; omega, by have := prF_len B l.wth; have := o.nw; show (prF B l.wth).length ≤ 1000; omega⟩
theorem subL_sub {l : Ld} (B : List Int) : SubL l (subL l B) B := by
  refine ⟨rfl, rfl, rfl, fun p hp => ?_, fun p hp => ?_⟩
  · obtain ⟨q, hq, h1, h2, rfl⟩ := prF_mem hp
    exact ⟨q, hq, by show q.1 = B.getD ((B.idxOf q.1 : Nat) : Int).toNat default; rw [Int.toNat_natCast, getD_idxOf h1], by show q.2 = B.getD ((B.idxOf q.2 : Nat) : Int).toNat default; rw [Int.toNat_natCast, getD_idxOf h2]⟩
  · obtain ⟨q, hq, h1, h2, rfl⟩ := prF_mem hp
    exact ⟨q, hq, by show q.1 = B.getD ((B.idxOf q.1 : Nat) : Int).toNat default; rw [Int.toNat_natCast, getD_idxOf h1], by show q.2 = B.getD ((B.idxOf q.2 : Nat) : Int).toNat default; rw [Int.toNat_natCast, getD_idxOf h2]⟩
theorem pk_wth {l : Ld} (o : LdOk l) {k s : Nat} (hs : s < 2 ^ l.sacks.length) (h : Pk (rightB (openD l)) k s) {p : Int × Int} (hp : p ∈ l.wth) : s.testBit p.1.toNat = s.testBit p.2.toNat := by
  induction h with
  | nil => rw [Nat.zero_testBit, Nat.zero_testBit]
  | @cons n set c hr hsub h0 t ih =>
    have hc : c < 2 ^ l.sacks.length := Nat.lt_of_le_of_lt hsub.le hs
    have hd : diff set c < 2 ^ l.sacks.length := Nat.lt_of_le_of_lt (diff_le set c) hs
    have h1 := ((right_iff o hc).1 hr).wp p hp
    have h2 := ih hd
    have key : ∀ i, set.testBit i = (c.testBit i || (diff set c).testBit i) := fun i => by
      rw [diff_bit]
      have := hsub i
      cases hci : c.testBit i
      · cases set.testBit i <;> rfl
      · rw [this hci]; rfl
    rw [key, key, h1, h2]
structure BestF (l : Ld) (c : Nat) (B : List Int) : Prop where
  nd : B.Nodup
  b : ∀ x ∈ B, 0 ≤ x ∧ x < l.sacks.length
  l9 : B.length ≤ 9
  w : ∀ p ∈ l.wth, p.1 ∈ B ↔ p.2 ∈ B
  m : manyD (openD (subL l B)) ≤ c
  s : wsum l B = (sumW (wts l) (bestN l c) : Int)
  a : ∀ j, j + 1 < B.length → B.getD j default ≤ B.getD (j + 1) default
theorem best_f {l : Ld} (o : LdOk l) {c : Nat} (hc : c ≤ 9) : BestF l c (bits (bestN l c)) := by
  have hs := bestN_lt l c
  obtain ⟨k, hk, hp⟩ := bestN_pk l c
  have hp9 := pow9 o.n
  have hbi := bits_in o.n hs
  have hnd := bits_nd o.n hs
  have hl9 : (bits (bestN l c)).length ≤ 9 := by
    have hn := o.n
    have := asc_len (bits_asc o.n hs) hbi (Int.natCast_nonneg _)
    omega
  refine ⟨hnd, hbi, hl9, fun p hpw => ?_, ?_, wsum_bits o hs, fun j hj => ?_⟩
  · have hw := pk_wth o hs hp hpw
    have hb := o.wp p hpw
    have key : ∀ x : Int, 0 ≤ x → (x ∈ bits (bestN l c) ↔ (bestN l c).testBit x.toNat = true) := fun x hx => by
      rw [bits_iff (by omega)]
      constructor
      · rintro ⟨j, rfl, h⟩; rw [Int.toNat_natCast]; exact h
      · intro h; exact ⟨x.toNat, by omega, h⟩
    rw [key _ hb.1, key _ hb.2.2.1, hw]
  · exact Nat.le_trans ((subL_sub (l := l) (bits (bestN l c))).many o (subL_ok o hl9 hbi) hs hp (by omega)) hk
  · have := List.pairwise_iff_getElem.1 (bits_asc o.n hs) j (j + 1) (by omega) hj (by omega)
    rw [List.getD_eq_getElem?_getD, List.getD_eq_getElem?_getD, List.getElem?_eq_getElem (by omega), List.getElem?_eq_getElem hj]
    exact Int.le_of_lt this
theorem wsum_take {l : Ld} {B : List Int} (hB : ∀ x ∈ B, 0 ≤ x ∧ x < l.sacks.length) {k : Nat} (hk : k < B.length) : wsum l (B.take (k + 1)) = wsum l (B.take k) + weightR l (l.sacks.getD (B.getD k default).toNat default) := by
  unfold wsum
  rw [take_next hk, List.map_append, List.sum_append]
  have := hB _ (getD_mem (d := default) hk)
  congr 1
  show ((l.sacks.map (weightR l)).getD (B.getD k default).toNat 0) + 0 = _
  generalize B.getD k default = x at this ⊢
  rw [Int.add_zero, List.getD_eq_getElem?_getD, List.getElem?_map, List.getD_eq_getElem?_getD, List.getElem?_eq_getElem (by omega)]; rfl
theorem wr_b {l : Ld} (o : LdOk l) {i : Nat} (hi : i < l.sacks.length) : 0 ≤ weightR l (l.sacks.getD i default) ∧ weightR l (l.sacks.getD i default) ≤ 100 := by
  have := wt_le o (getD_mem (d := default) hi)
  omega
def totK (l : Ld) (k : Nat) : Int := ((l.sacks.take k).map (weightR l)).sum
theorem totK_next {l : Ld} {k : Nat} (hk : k < l.sacks.length) : totK l (k + 1) = totK l k + weightR l (l.sacks.getD k default) := by
  unfold totK
  rw [take_next hk, List.map_append, List.sum_append]
  congr 1
  exact Int.add_zero _
theorem totK_end {l : Ld} (o : LdOk l) : totK l l.sacks.length = ((wts l).sum : Nat) := by
  unfold totK
  rw [List.take_length]
  unfold wts
  have h : ∀ x ∈ l.sacks, (wt l x : Int) = weightR l x := fun x hx => (wt_le o hx).1
  generalize l.sacks = L at h
  induction L with
  | nil => rfl
  | cons x L ih =>
    rw [List.map_cons, List.map_cons, List.sum_cons, List.sum_cons, ih fun y hy => h y (List.mem_cons_of_mem _ hy), ← h x List.mem_cons_self]
    omega
end GA
end

section
namespace GA
open Go Go.RowKit Go.Proofs
set_option pp.deepTerms true
set_option maxRecDepth 8000
set_option linter.unusedVariables false
set_option linter.unusedSimpArgs false

def paN (l : Ld) (B : List Int) : Nat → List (Int × Int)
  | 0 => []
  | _ + 1 => prF B l.apart
def pwN (l : Ld) (B : List Int) : Nat → List (Int × Int)
  | 0 => []
  | 1 => []
  | _ + 2 => prF B l.wth
def skB (l : Ld) (B : List Int) : List AV := B.map fun i => skA (l.sacks.getD i.toNat default)
set_option maxHeartbeats 8000000 in
theorem fewOwn (l : Ld) (o : LdOk l) (w : LdW l) (u1 q : Hp) (c : Nat) (hc : c ≤ 4) (B : List Int) (F : BestF l c B) (S : Nat) (hS : S = sumW (wts l) (bestN l c))
    (hC : XRun Try.prog tab 360 none [] (innerC (tailC 15 (theC Try.f6.body))) (blockX 8 (thenQ (XRun Try.prog tab 360 none [] (tailC 16 (theC Try.f6.body)) (XFn Try.prog tab [.tmp 6] (.bool true))) (XFn Try.prog tab [.tmp 6] (.bool true)))) [] (stX [(7, .ptr 1 0), (8, .ptr 2 0), (9, natA c), (16, natA S), (266, natA 0)]) [hpC u1, .cells (ldC l), hpC q, .dead, .dead, .dead, .dead, .dead]) :
    XRun Try.prog tab 360 none [] (innerC (tailC 12 (theC Try.f6.body))) (blockX 2 (thenQ (XRun Try.prog tab 360 none [] (tailC 13 (theC Try.f6.body)) (XFn Try.prog tab [.tmp 6] (.bool true))) (XFn Try.prog tab [.tmp 6] (.bool true)))) []
      (stX [(7, .ptr 1 0), (8, .ptr 2 0), (9, natA c), (15, slA B), (16, natA S), (21, .ptr 3 0), (22, .int .i64 0), (23, .mp 4), (134, slA B), (135, .int .i64 ((ints B).length : Int)), (136, natA 0)])
      [hpC u1, .cells (ldC l), hpC q, .cells [.int .i64 l.bears, .int .i64 l.shrink, .sl true [], .sl true [], .sl true []], .map []] := by
  /-
  refine Comp.body (T := tab) (res := [.tmp 6]) tab_ok [] Try.func6 rfl (by kernel_rfl) Try.ntmps6 rfl (by simp only [List.length_cons, List.length_nil]; decide) (by rfl) ?_; conv => whnf
  -/
  have hn := o.n; have hna := o.na; have hnw := o.nw
  have hl9 := F.l9
  have e1 : ((l.sacks.map skA).length : Int) = l.sacks.length := by rw [List.length_map]
  have e2 : ((ints B).length : Int) = B.length := by rw [ints_lenG]
  conv => whnf
  refine Walk.nilcell 3 2 74 rfl rfl ?_
  refine Walk.nilcell 3 3 76 rfl rfl ?_
  refine Walk.nilcell 3 4 76 rfl rfl ?_
  refine Walk.loopK tab_ok [] [(7, _), (8, _), (9, _), (15, _), (16, _), (21, _), (23, _), (134, _), (135, _)] ⟨rfl, rfl, rfl, rfl, rfl, rfl, rfl, rfl, rfl, trivial⟩ (fun k : Nat => k ≤ B.length ∧ 0 ≤ wsum l (B.take k) ∧ wsum l (B.take k) ≤ 100 * k) (fun k => [(22, .int .i64 (wsum l (B.take k))), (136, natA k)]) (fun k => [hpC u1, .cells (ldC l), hpC q, .cells [.int .i64 l.bears, .int .i64 l.shrink, .gr 5 k, .gr 6 0, .gr 7 0], .map (mpE B k), .grow 74 (B.take k).isEmpty (skB l (B.take k)), .grow 76 true [], .grow 76 true []]) (fun k => B.length - k) 0 ⟨Nat.zero_le _, by show (0 : Int) ≤ 0 ∧ (0 : Int) ≤ 100 * ((0 : Nat) : Int); omega⟩ rfl ⟨rfl, rfl, trivial⟩ ?_
  rintro k ⟨hk, hs1, hs2⟩
  have hnx : k < B.length → B.take (k + 1) = B.take k ++ [B.getD k default] := fun h => take_next h
  have hskn : ∀ x, skB l (B.take k ++ [x]) = skB l (B.take k) ++ [skA (l.sacks.getD x.toNat default)] := fun x => List.map_append
  have hskl : (skB l (B.take k)).length = k := by unfold skB; rw [List.length_map, List.length_take]; omega
  have hmpn := fun h => mpE_put F.nd (k := k) h
  have hend : k = B.length → B.take k = B := fun h => by rw [h, List.take_length]
  have hwn := fun h => wsum_take F.b (k := k) h
  obtain ⟨E, hE⟩ : ∃ E, E = skB l (B.take k) := ⟨_, rfl⟩
  rw [← hE] at hskl ⊢
  conv => whnf
  by_cases hkl : k < B.length
  · have hbk := F.b _ (getD_mem (d := default) hkl)
    have hlw := lawWeight_c l o (B.getD k default).toNat (by omega)
    have hwb := wr_b o (i := (B.getD k default).toNat) (by omega)
    have hwn := hwn hkl
    rw [show natA (B.getD k default).toNat = .int .i64 (B.getD k default) by unfold natA; rw [Int.toNat_of_nonneg hbk.1]] at hlw
    repeat' first | ((with_reducible apply XBr.ff); conv => whnf) | ((with_reducible apply XBr.dec) <;> (intro h; first | (exfalso; omega) | ((try simp only [List.length_map] at h); first | (exfalso; omega) | (conv => whnf)))) | ((with_reducible refine XInt.i64 (by omega) (by omega) ?_); conv => whnf) | ((with_reducible refine XHold.mk ?_ ?_); (first | omega | rfl | decide | exact ⟨rfl, by decide, rfl⟩ | exact wideI _ | exact widePr _ | exact wideSk _ | (unfold Room; constructor <;> ((try simp) <;> omega)) | exact ⟨rfl, by simp only [List.length_map], by unfold Room; constructor <;> ((try simp) <;> omega)⟩ | exact ⟨by omega, by omega, by unfold Room; constructor <;> ((try simp) <;> omega)⟩); conv => whnf) | ((first | ((with_reducible refine XIx.nat ?_ ?_ ?_); omega; (intro _; rfl)) | ((with_reducible refine XIx.map ?_ ?_ ?_ ?_); omega; omega; (intro _; rfl))); conv => whnf) | (with_reducible apply XAnd.mk) | ((first | (with_reducible apply Chk.go) | (with_reducible apply ChkA.go) | (with_reducible apply ChkF.go) | (with_reducible apply ChkB.go)); conv => whnf) | (exact XSame.mk rfl rfl) | (with_reducible exact trivial) | (apply Walk.drawN (id := 22) tab_ok mixed_ok [] [10, 13, 14] (hsC [_, _, _, _]) [_, _, _, _, _, _, _, _, _, _, _, _, _, _, _] (by kernel_rfl) rfl) | ((first | (with_reducible apply XNext.mk) | (refine XCall.ret hlw ?_)); conv => whnf) | fail
    refine XAgain.go (k + 1) ⟨by omega, by rw [hwn]; omega, by rw [hwn]; omega⟩ (by omega) ?_ ⟨rfl, rfl, rfl, rfl, rfl, rfl, rfl, rfl, rfl, (by rw [hwn]; rfl), rfl, trivial⟩
    rw [hnx hkl, hskn, isEmpty_app, ← hmpn hkl, ← hE]; rfl
  obtain rfl : k = B.length := by omega
  have hend := hend rfl
  rw [hend] at hE hs1 hs2 ⊢
  clear hnx hskn hmpn hwn hend
  subst hE
  have hmg := fun x => mpE_get F.nd x
  have hml := mpE_len B B.length
  repeat' first | ((with_reducible apply XBr.dec) <;> (intro h; first | (exfalso; omega) | ((try simp only [List.length_map] at h); first | (exfalso; omega) | (conv => whnf)))) | ((with_reducible refine XHold.mk ?_ ?_); (first | omega | rfl | decide | exact ⟨rfl, by decide, rfl⟩ | exact wideI _ | exact widePr _ | exact wideSk _ | (unfold Room; constructor <;> ((try simp) <;> omega)) | exact ⟨rfl, by simp only [List.length_map], by unfold Room; constructor <;> ((try simp) <;> omega)⟩ | exact ⟨by omega, by omega, by unfold Room; constructor <;> ((try simp) <;> omega)⟩); conv => whnf) | fail
  refine Walk.loopK tab_ok [] [(7, _), (8, _), (9, _), (15, _), (16, _), (21, _), (22, _), (23, _), (173, _), (174, _)] ⟨rfl, rfl, rfl, rfl, rfl, rfl, rfl, rfl, rfl, rfl, trivial⟩ (fun n : Nat => n ≤ 2) (fun n => [(175, natA n)]) (fun n => [hpC u1, .cells (ldC l), hpC q, .cells [.int .i64 l.bears, .int .i64 l.shrink, .gr 5 B.length, .gr 6 (paN l B n).length, .gr 7 (pwN l B n).length], .map (mpE B B.length), .grow 74 B.isEmpty (skB l B), .grow 76 (paN l B n).isEmpty ((paN l B n).map prA), .grow 76 (pwN l B n).isEmpty ((pwN l B n).map prA)]) (fun n => 2 - n) 0 (Nat.zero_le _) rfl ⟨rfl, trivial⟩ ?_
  intro n hn2
  have hlo : ∀ n (xs : List (Int × Int)), lowL n (xs.map prA) = true := fun n xs => lowPr xs
  have hmpl : ∀ n, (Blk.map (mpE B B.length)).low n = true := fun n => mpE_low _ _ _
  have hls : ∀ n, lowL n (skB l B) = true := fun n => lowL_map (fun _ => rfl) B
  have el : (([AV.sl l.nla (l.apart.map prA), AV.sl l.nlw (l.wth.map prA)] : List AV).length : Int) = 2 := rfl
  have ea : ((l.apart.map prA).length : Int) = l.apart.length := by rw [List.length_map]
  have ew : ((l.wth.map prA).length : Int) = l.wth.length := by rw [List.length_map]
  have hcs : n = 0 ∨ n = 1 ∨ n = 2 := by omega
  rcases hcs with rfl | rfl | rfl
  · conv => whnf
    repeat' first | ((with_reducible apply XBr.dec) <;> (intro h; first | (exfalso; omega) | ((try simp only [List.length_map] at h); first | (exfalso; omega) | (conv => whnf)))) | ((refine XIx.mk (by omega) (by omega) rfl ?_); conv => whnf) | fail
    refine Walk.loopGK tab_ok [] [(7, _), (8, _), (9, _), (15, _), (16, _), (21, _), (22, _), (23, _), (26, _), (173, _), (174, _), (175, _), (180, _), (181, _)] ⟨rfl, rfl, rfl, rfl, rfl, rfl, rfl, rfl, rfl, rfl, rfl, rfl, rfl, rfl, trivial⟩ (fun k : Nat => k ≤ l.apart.length) (fun k => [(182, natA k)]) (fun k => [hpC u1, .cells (ldC l), hpC q, .cells [.int .i64 l.bears, .int .i64 l.shrink, .gr 5 B.length, .gr 6 (prF B (l.apart.take k)).length, .gr 7 0], .map (mpE B B.length), .grow 74 B.isEmpty (skB l B), .grow 76 (prF B (l.apart.take k)).isEmpty ((prF B (l.apart.take k)).map prA), .grow 76 true []]) (fun k => l.apart.length - k) 0 (Nat.zero_le _) rfl ⟨rfl, trivial⟩ ?_ (fun _ _ => (show (8 : Nat) ≤ 8 from Nat.le_refl 8)) ?_
    · intro k _
      refine ⟨fun z hz => ?_, fun z hz => ?_⟩
      · simp only [List.mem_cons, List.not_mem_nil, or_false] at hz
        rcases hz with rfl | rfl | rfl | rfl | rfl | rfl | rfl | rfl <;> first | exact hpC_low _ | exact lowLd _ | exact hls _ | exact hlo _ _ | exact hmpl _ | rfl
      · simp only [List.cons_append, List.nil_append, List.mem_cons, List.not_mem_nil, or_false] at hz
        rcases hz with rfl | rfl | rfl | rfl | rfl | rfl | rfl | rfl | rfl | rfl | rfl | rfl | rfl | rfl | rfl <;> first | rfl | exact lowI _ | exact hlo _ _ | (simp only [AV.low, lowL, lowPr]; rfl)
    intro k hk
    have hnx := fun h => prF_next (B := B) (ps := l.apart) (k := k) h
    have hpl : ((prF B (l.apart.take k)).map prA).length = (prF B (l.apart.take k)).length := List.length_map _
    have hpb : (prF B (l.apart.take k)).length ≤ 8 := by have := prF_len B (l.apart.take k); have := List.length_take_le k l.apart; omega
    have hend : k = l.apart.length → l.apart.take k = l.apart := fun h => by rw [h, List.take_length]
    conv => whnf
    by_cases hkl : k < l.apart.length
    · have hnx := hnx hkl
      have hg1 := hmg (l.apart.getD k default).1
      have hg2 := hmg (l.apart.getD k default).2
      by_cases h1 : (l.apart.getD k default).1 ∈ B
      all_goals by_cases h2 : (l.apart.getD k default).2 ∈ B
      all_goals
        first | rw [if_pos h1] at hg1 | rw [if_neg h1] at hg1
        first | rw [if_pos h2] at hg2 | rw [if_neg h2] at hg2
      · rw [if_pos ⟨h1, h2⟩] at hnx
        repeat' first | ((first | (with_reducible apply XBr.tt) | (with_reducible apply XBr.ff)); conv => whnf) | ((with_reducible apply XBr.dec) <;> (intro h; first | (exfalso; omega) | ((try simp only [List.length_map] at h); first | (exfalso; omega) | (conv => whnf)))) | ((with_reducible apply XBr.beq) <;> (intro h; first | (exfalso; omega) | (conv => whnf))) | ((with_reducible refine XInt.i64 (by omega) (by omega) ?_); conv => whnf) | ((with_reducible refine XHold.mk ?_ ?_); (first | omega | rfl | decide | exact ⟨rfl, by decide, rfl⟩ | exact wideI _ | exact widePr _ | exact wideSk _ | (unfold Room; constructor <;> ((try simp) <;> omega)) | exact ⟨rfl, by simp only [List.length_map], by unfold Room; constructor <;> ((try simp) <;> omega)⟩ | exact ⟨by omega, by omega, by unfold Room; constructor <;> ((try simp) <;> omega)⟩); conv => whnf) | ((first | ((with_reducible refine XIx.nat ?_ ?_ ?_); omega; (intro _; rfl)) | ((with_reducible refine XArr.ptr ?_ ?_ ?_); omega; omega) | (refine XGetM.mk' hg1 ?_) | (refine XGetM.mk' hg2 ?_)); conv => whnf) | fail
        all_goals first | (refine XAgainG.go (k + 1) [.cells (prA (l.apart.getD k default)).cells] (by omega) (by omega) ?_ ⟨rfl, rfl, rfl, rfl, rfl, rfl, rfl, rfl, rfl, rfl, rfl, rfl, rfl, rfl, rfl, trivial⟩; rw [hnx, isEmpty_app, List.length_append, List.map_append]; rfl) | (exfalso; exact absurd h (by decide)) | (exfalso; omega)
      · rw [if_neg (fun h => h2 h.2)] at hnx
        repeat' first | ((first | (with_reducible apply XBr.tt) | (with_reducible apply XBr.ff)); conv => whnf) | ((with_reducible apply XBr.dec) <;> (intro h; first | (exfalso; omega) | ((try simp only [List.length_map] at h); first | (exfalso; omega) | (conv => whnf)))) | ((with_reducible apply XBr.beq) <;> (intro h; first | (exfalso; omega) | (conv => whnf))) | ((first | (with_reducible refine XInt.i64 (by omega) (by omega) ?_) | ((with_reducible refine XIx.nat ?_ ?_ ?_); omega; (intro _; rfl)) | ((with_reducible refine XArr.ptr ?_ ?_ ?_); omega; omega) | (refine XGetM.mk' hg1 ?_) | (refine XGetM.mk' hg2 ?_)); conv => whnf) | fail
        all_goals first | (refine XAgainG.go (k + 1) [.cells (prA (l.apart.getD k default)).cells] (by omega) (by omega) ?_ ⟨rfl, rfl, rfl, rfl, rfl, rfl, rfl, rfl, rfl, rfl, rfl, rfl, rfl, rfl, rfl, trivial⟩; rw [hnx]; rfl) | (exfalso; exact absurd h (by decide)) | (exfalso; omega)
      · rw [if_neg (fun h => h1 h.1)] at hnx
        repeat' first | ((with_reducible apply XBr.ff); conv => whnf) | ((with_reducible apply XBr.dec) <;> (intro h; first | (exfalso; omega) | ((try simp only [List.length_map] at h); first | (exfalso; omega) | (conv => whnf)))) | ((with_reducible apply XBr.beq) <;> (intro h; first | (exfalso; omega) | (conv => whnf))) | ((first | (with_reducible refine XInt.i64 (by omega) (by omega) ?_) | ((with_reducible refine XIx.nat ?_ ?_ ?_); omega; (intro _; rfl)) | ((with_reducible refine XArr.ptr ?_ ?_ ?_); omega; omega) | (refine XGetM.mk' hg1 ?_) | (refine XGetM.mk' hg2 ?_)); conv => whnf) | fail
        all_goals first | (refine XAgainG.go (k + 1) [.cells (prA (l.apart.getD k default)).cells] (by omega) (by omega) ?_ ⟨rfl, rfl, rfl, rfl, rfl, rfl, rfl, rfl, rfl, rfl, rfl, rfl, rfl, rfl, rfl, trivial⟩; rw [hnx]; rfl) | (exfalso; exact absurd h (by decide)) | (exfalso; omega)
      · rw [if_neg (fun h => h1 h.1)] at hnx
        repeat' first | ((with_reducible apply XBr.ff); conv => whnf) | ((with_reducible apply XBr.dec) <;> (intro h; first | (exfalso; omega) | ((try simp only [List.length_map] at h); first | (exfalso; omega) | (conv => whnf)))) | ((with_reducible apply XBr.beq) <;> (intro h; first | (exfalso; omega) | (conv => whnf))) | ((first | (with_reducible refine XInt.i64 (by omega) (by omega) ?_) | ((with_reducible refine XIx.nat ?_ ?_ ?_); omega; (intro _; rfl)) | ((with_reducible refine XArr.ptr ?_ ?_ ?_); omega; omega) | (refine XGetM.mk' hg1 ?_) | (refine XGetM.mk' hg2 ?_)); conv => whnf) | fail
        all_goals first | (refine XAgainG.go (k + 1) [.cells (prA (l.apart.getD k default)).cells] (by omega) (by omega) ?_ ⟨rfl, rfl, rfl, rfl, rfl, rfl, rfl, rfl, rfl, rfl, rfl, rfl, rfl, rfl, rfl, trivial⟩; rw [hnx]; rfl) | (exfalso; exact absurd h (by decide)) | (exfalso; omega)
    obtain rfl : k = l.apart.length := by omega
    have hend := hend rfl
    rw [hend]
    repeat' first | ((with_reducible apply XBr.dec) <;> (intro h; first | (exfalso; omega) | ((try simp only [List.length_map] at h); first | (exfalso; omega) | (conv => whnf)))) | ((with_reducible refine XInt.i64 (by omega) (by omega) ?_); conv => whnf) | fail
    exact XAgain.go 1 (by omega) (by omega) rfl ⟨rfl, rfl, rfl, rfl, rfl, rfl, rfl, rfl, rfl, rfl, rfl, trivial⟩
  · conv => whnf
    repeat' first | ((with_reducible apply XBr.dec) <;> (intro h; first | (exfalso; omega) | ((try simp only [List.length_map] at h); first | (exfalso; omega) | (conv => whnf)))) | ((refine XIx.mk (by omega) (by omega) rfl ?_); conv => whnf) | fail
    refine Walk.loopGK tab_ok [] [(7, _), (8, _), (9, _), (15, _), (16, _), (21, _), (22, _), (23, _), (26, _), (173, _), (174, _), (175, _), (180, _), (181, _)] ⟨rfl, rfl, rfl, rfl, rfl, rfl, rfl, rfl, rfl, rfl, rfl, rfl, rfl, rfl, trivial⟩ (fun k : Nat => k ≤ l.wth.length) (fun k => [(182, natA k)]) (fun k => [hpC u1, .cells (ldC l), hpC q, .cells [.int .i64 l.bears, .int .i64 l.shrink, .gr 5 B.length, .gr 6 (prF B l.apart).length, .gr 7 (prF B (l.wth.take k)).length], .map (mpE B B.length), .grow 74 B.isEmpty (skB l B), .grow 76 (prF B l.apart).isEmpty ((prF B l.apart).map prA), .grow 76 (prF B (l.wth.take k)).isEmpty ((prF B (l.wth.take k)).map prA)]) (fun k => l.wth.length - k) 0 (Nat.zero_le _) rfl ⟨rfl, trivial⟩ ?_ (fun _ _ => (show (8 : Nat) ≤ 8 from Nat.le_refl 8)) ?_
    · intro k _
      refine ⟨fun z hz => ?_, fun z hz => ?_⟩
      · simp only [List.mem_cons, List.not_mem_nil, or_false] at hz
        rcases hz with rfl | rfl | rfl | rfl | rfl | rfl | rfl | rfl <;> first | exact hpC_low _ | exact lowLd _ | exact hls _ | exact hlo _ _ | exact hmpl _ | rfl
      · simp only [List.cons_append, List.nil_append, List.mem_cons, List.not_mem_nil, or_false] at hz
        rcases hz with rfl | rfl | rfl | rfl | rfl | rfl | rfl | rfl | rfl | rfl | rfl | rfl | rfl | rfl | rfl <;> first | rfl | exact lowI _ | exact hlo _ _ | (simp only [AV.low, lowL, lowPr]; rfl)
    intro k hk
    have hnx := fun h => prF_next (B := B) (ps := l.wth) (k := k) h
    have hpl : ((prF B (l.wth.take k)).map prA).length = (prF B (l.wth.take k)).length := List.length_map _
    have hpb : (prF B (l.wth.take k)).length ≤ 8 := by have := prF_len B (l.wth.take k); have := List.length_take_le k l.wth; omega
    have hend : k = l.wth.length → l.wth.take k = l.wth := fun h => by rw [h, List.take_length]
    conv => whnf
    by_cases hkl : k < l.wth.length
    · have hnx := hnx hkl
      have hg1 := hmg (l.wth.getD k default).1
      have hg2 := hmg (l.wth.getD k default).2
      have hw := F.w _ (getD_mem (d := default) hkl)
      by_cases h1 : (l.wth.getD k default).1 ∈ B
      all_goals by_cases h2 : (l.wth.getD k default).2 ∈ B
      all_goals
        first | rw [if_pos h1] at hg1 | rw [if_neg h1] at hg1
        first | rw [if_pos h2] at hg2 | rw [if_neg h2] at hg2
      · rw [if_pos ⟨h1, h2⟩] at hnx
        repeat' first | ((with_reducible apply XBr.tt); conv => whnf) | ((with_reducible apply XBr.dec) <;> (intro h; first | (exfalso; omega) | ((try simp only [List.length_map] at h); first | (exfalso; omega) | (conv => whnf)))) | ((with_reducible apply XBr.beq) <;> (intro h; first | (exfalso; omega) | (conv => whnf))) | ((with_reducible refine XInt.i64 (by omega) (by omega) ?_); conv => whnf) | ((with_reducible refine XHold.mk ?_ ?_); (first | omega | rfl | decide | exact ⟨rfl, by decide, rfl⟩ | exact wideI _ | exact widePr _ | exact wideSk _ | (unfold Room; constructor <;> ((try simp) <;> omega)) | exact ⟨rfl, by simp only [List.length_map], by unfold Room; constructor <;> ((try simp) <;> omega)⟩ | exact ⟨by omega, by omega, by unfold Room; constructor <;> ((try simp) <;> omega)⟩); conv => whnf) | ((first | ((with_reducible refine XIx.nat ?_ ?_ ?_); omega; (intro _; rfl)) | ((with_reducible refine XArr.ptr ?_ ?_ ?_); omega; omega) | (refine XGetM.mk' hg1 ?_) | (refine XGetM.mk' hg2 ?_)); conv => whnf) | ((with_reducible apply XBr.mk') <;> (intro h; conv => whnf)) | fail
        all_goals first | (refine XAgainG.go (k + 1) [.cells (prA (l.wth.getD k default)).cells] (by omega) (by omega) ?_ ⟨rfl, rfl, rfl, rfl, rfl, rfl, rfl, rfl, rfl, rfl, rfl, rfl, rfl, rfl, rfl, trivial⟩; rw [hnx, isEmpty_app, List.length_append, List.map_append]; rfl) | (exfalso; exact absurd h (by decide)) | (exfalso; omega)
      · exact absurd (hw.1 h1) h2
      · exact absurd (hw.2 h2) h1
      · rw [if_neg (fun h => h1 h.1)] at hnx
        repeat' first | ((first | (with_reducible apply XBr.tt) | (with_reducible apply XBr.ff)); conv => whnf) | ((with_reducible apply XBr.dec) <;> (intro h; first | (exfalso; omega) | ((try simp only [List.length_map] at h); first | (exfalso; omega) | (conv => whnf)))) | ((with_reducible apply XBr.beq) <;> (intro h; first | (exfalso; omega) | (conv => whnf))) | ((first | (with_reducible refine XInt.i64 (by omega) (by omega) ?_) | ((with_reducible refine XIx.nat ?_ ?_ ?_); omega; (intro _; rfl)) | ((with_reducible refine XArr.ptr ?_ ?_ ?_); omega; omega) | (refine XGetM.mk' hg1 ?_) | (refine XGetM.mk' hg2 ?_)); conv => whnf) | ((with_reducible apply XBr.mk') <;> (intro h; conv => whnf)) | fail
        all_goals first | (refine XAgainG.go (k + 1) [.cells (prA (l.wth.getD k default)).cells] (by omega) (by omega) ?_ ⟨rfl, rfl, rfl, rfl, rfl, rfl, rfl, rfl, rfl, rfl, rfl, rfl, rfl, rfl, rfl, trivial⟩; rw [hnx]; rfl) | (exfalso; exact absurd h (by decide)) | (exfalso; omega)
    obtain rfl : k = l.wth.length := by omega
    have hend := hend rfl
    rw [hend]
    repeat' first | ((with_reducible apply XBr.dec) <;> (intro h; first | (exfalso; omega) | ((try simp only [List.length_map] at h); first | (exfalso; omega) | (conv => whnf)))) | ((with_reducible refine XInt.i64 (by omega) (by omega) ?_); conv => whnf) | fail
    exact XAgain.go 2 (by omega) (by omega) rfl ⟨rfl, rfl, rfl, rfl, rfl, rfl, rfl, rfl, rfl, rfl, rfl, trivial⟩
  · obtain ⟨out, hf⟩ := few_is (subL l B) (subL_ok o F.l9 F.b) (subL_W o F.l9) (by have := F.m; omega)
    have hFm := F.m
    have hFs := F.s
    rw [← hS] at hFs
    generalize manyD (openD (subL l B)) = mm at hf hFm
    have hf' : Comp Try.prog 25 [.agg [.int .i64 l.bears, .int .i64 l.shrink, .sl B.isEmpty (skB l B), .sl (paN l B 2).isEmpty ((paN l B 2).map prA), .sl (pwN l B 2).isEmpty ((pwN l B 2).map prA)]] (.tup [.sl false (nats out), natA mm, .int .i64 0]) := by
      have h := hf
      rw [show ldA (subL l B) = .agg [.int .i64 l.bears, .int .i64 l.shrink, .sl B.isEmpty ((B.map fun i => l.sacks.getD i.toNat default).map skA), .sl (prF B l.apart).isEmpty ((prF B l.apart).map prA), .sl (prF B l.wth).isEmpty ((prF B l.wth).map prA)] from rfl, List.map_map] at h
      exact h
    clear hf
    conv => whnf
    repeat' first | ((with_reducible apply XBr.dec) <;> (intro h; first | (exfalso; omega) | ((try simp only [List.length_map] at h); first | (exfalso; omega) | (conv => whnf)))) | fail
    refine XCall.freezeCell 3 2 5 B.length (t := 74) (nl := B.isEmpty) (els := skB l B) rfl rfl rfl (List.length_map _) (.agg (cs' := [.int .i64 l.bears, .int .i64 l.shrink, .sl B.isEmpty (skB l B), .gr 6 (paN l B 2).length, .gr 7 (pwN l B 2).length]) (by intro v hv; simp only [List.mem_cons, List.not_mem_nil, or_false] at hv; rcases hv with rfl | rfl | rfl | rfl | rfl <;> rfl) (.same (.same (.gr (.same (.same .nil))))) .nil) ?_
    refine XCall.freezeCell 3 3 6 (paN l B 2).length (t := 76) (nl := (paN l B 2).isEmpty) (els := (paN l B 2).map prA) rfl rfl rfl (List.length_map _) (.agg (cs' := [.int .i64 l.bears, .int .i64 l.shrink, .sl B.isEmpty (skB l B), .sl (paN l B 2).isEmpty ((paN l B 2).map prA), .gr 7 (pwN l B 2).length]) (by intro v hv; simp only [List.mem_cons, List.not_mem_nil, or_false] at hv; rcases hv with rfl | rfl | rfl | rfl | rfl <;> rfl) (.same (.same (.same (.gr (.same .nil))))) .nil) ?_
    refine XCall.freezeCell 3 4 7 (pwN l B 2).length (t := 76) (nl := (pwN l B 2).isEmpty) (els := (pwN l B 2).map prA) rfl rfl rfl (List.length_map _) (.agg (cs' := [.int .i64 l.bears, .int .i64 l.shrink, .sl B.isEmpty (skB l B), .sl (paN l B 2).isEmpty ((paN l B 2).map prA), .sl (pwN l B 2).isEmpty ((pwN l B 2).map prA)]) (by intro v hv; simp only [List.mem_cons, List.not_mem_nil, or_false] at hv; rcases hv with rfl | rfl | rfl | rfl | rfl <;> rfl) (.same (.same (.same (.same (.gr .nil))))) .nil) ?_
    refine XCall.ret hf' ?_
    conv => whnf
    repeat' first | ((with_reducible apply XBr.ff); conv => whnf) | ((with_reducible apply XBr.dec) <;> (intro h; first | (exfalso; omega) | ((try simp only [List.length_map] at h); first | (exfalso; omega) | (conv => whnf)))) | ((with_reducible apply XBr.bne) <;> (intro h; first | (exfalso; omega) | (conv => whnf))) | fail
    refine Walk.keep tab_ok [] [hpC u1, .cells (ldC l), hpC q] _ [(7, .ptr 1 0), (8, .ptr 2 0), (9, natA c), (16, natA S), (266, natA 0)] rfl ?_ ⟨⟨_, rfl, .same rfl⟩, ⟨_, rfl, .same rfl⟩, ⟨_, rfl, .same rfl⟩, ⟨_, rfl, .same rfl⟩, ⟨_, rfl, .same rfl⟩, trivial⟩ rfl ?_
    · intro z hz
      simp only [List.mem_cons, List.not_mem_nil, or_false] at hz
      rcases hz with rfl | rfl | rfl <;> first | exact hpC_low _ | exact lowLd _
    exact hC
end GA
end

section
namespace GA
open Go Go.RowKit Go.Proofs
set_option pp.deepTerms true
set_option maxRecDepth 8000
set_option linter.unusedVariables false
set_option linter.unusedSimpArgs false

set_option maxHeartbeats 4000000 in
theorem fewEnd (l : Ld) (o : LdOk l) (w : LdW l) (c : Nat) (hc : c ≤ 4) :
    XRun Try.prog tab 360 none [] (tailC 16 (theC Try.f6.body)) (XFn Try.prog tab [.tmp 6] (.bool true)) [] (stX [(7, .pim (ldC l)), (9, natA c)]) (List.replicate 8 .dead) := by
  /-
  refine Comp.body (T := tab) (res := [.tmp 6]) tab_ok [] Try.func6 rfl (by kernel_rfl) Try.ntmps6 rfl (by simp only [List.length_cons, List.length_nil]; decide) (by rfl) ?_; conv => whnf
  -/
  have hbg := biggerX_c l (c : Int) w
  have hE : carE l (c : Int) = 0 := by
    unfold carE
    rw [if_neg (fun h => h ((checkR_ok l).2 o)), if_pos (inB_iff.2 ⟨by omega, by omega⟩)]
  rw [if_pos hE, Int.toNat_natCast] at hbg
  cases hb : bigR l c with
  | none =>
    rw [hb] at hbg
    conv => whnf
    repeat' first | ((with_reducible apply XBr.tt); conv => whnf) | ((with_reducible apply XBr.beq) <;> (intro h; first | (exfalso; omega) | (conv => whnf))) | ((with_reducible apply XBr.bne) <;> (intro h; first | (exfalso; omega) | (conv => whnf))) | ((first | (refine XCall.ret hbg ?_) | (refine XCall.ret awake_c ?_)); conv => whnf) | fail
    exact XOut.bool rfl
  | some b =>
    rw [hb] at hbg
    obtain ⟨b1, b2, b3, b4⟩ := big_spec o (by omega) hb
    have how := own_c l w
    conv => whnf
    repeat' first | ((with_reducible apply XBr.bne) <;> (intro h; first | (exfalso; omega) | (conv => whnf))) | ((refine XCall.ret hbg ?_); conv => whnf) | fail
    refine Walk.loopGK tab_ok [] [(7, _), (9, _), (44, _)] ⟨rfl, rfl, rfl, trivial⟩ (fun k : Nat => k ≤ 2) (fun k => [(330, natA k)]) (fun _ => List.replicate 8 .dead) (fun k => 2 - k) 0 (Nat.zero_le _) rfl ⟨rfl, trivial⟩ ?_ (fun _ _ => Nat.le_refl _) ?_
    · intro k _
      refine ⟨fun z hz => ?_, fun z hz => ?_⟩
      · rw [List.eq_of_mem_replicate hz]; rfl
      · simp only [List.cons_append, List.nil_append, List.mem_cons, List.not_mem_nil, or_false] at hz
        rcases hz with rfl | rfl | rfl | rfl <;> first | rfl | exact lowLd _
    intro k hk
    have hcs : k = 0 ∨ k = 1 ∨ k = 2 := by omega
    rcases hcs with rfl | rfl | rfl
    · obtain ⟨out, hf⟩ := few_is (uL l b) (uL_ok o ⟨b1, b2⟩) (uL_W w b) (by omega)
      have hf' : Comp Try.prog 25 [.agg [.int .i64 (b - ((0 : Nat) : Int)), .int .i64 l.shrink, .sl false (l.sacks.map skA), .sl false (l.apart.map prA), .sl false (l.wth.map prA)]] (.tup [.sl false (nats out), natA (manyD (openD (uL l b))), .int .i64 0]) := by
        rw [show b - ((0 : Nat) : Int) = b by omega]; exact hf
      generalize manyD (openD (uL l b)) = mm at hf' b3
      conv => whnf
      repeat' first | ((with_reducible apply XBr.tt); conv => whnf) | ((with_reducible apply XBr.dec) <;> (intro h; first | (exfalso; omega) | ((try simp only [List.length_map] at h); first | (exfalso; omega) | (conv => whnf)))) | ((with_reducible apply XBr.beq) <;> (intro h; first | (exfalso; omega) | (conv => whnf))) | ((first | (with_reducible refine XInt.i64 (by omega) (by omega) ?_) | (refine XCall.ret how ?_) | (refine XCall.ret hf' ?_)); conv => whnf) | ((with_reducible apply XBr.mk') <;> (intro h; conv => whnf)) | fail
      all_goals first | exact XAgainG.go 1 [.cells (ldC (uL l (b - ((0 : Nat) : Int))))] (by omega) (by omega) rfl ⟨rfl, rfl, rfl, rfl, trivial⟩ | (exfalso; rw [decide_eq_true (show ((mm : Nat) : Int) ≤ (c : Int) by omega)] at h; exact absurd h (by decide)) | (exfalso; omega)
    · by_cases h1 : 1 ≤ b - 1
      · have hm := b4 (b - 1) h1 (by omega)
        by_cases h9 : 9 < manyD (openD (uL l (b - 1)))
        · have hf : Comp Try.prog 25 [.agg [.int .i64 (b - ((1 : Nat) : Int)), .int .i64 l.shrink, .sl false (l.sacks.map skA), .sl false (l.apart.map prA), .sl false (l.wth.map prA)]] (.tup [.sl true [], .int .i64 0, .int .i64 6]) := few_no (uL l (b - 1)) (uL_ok o ⟨by omega, by omega⟩) (uL_W w _) h9
          conv => whnf
          repeat' first | ((with_reducible apply XBr.ff); conv => whnf) | ((with_reducible apply XBr.dec) <;> (intro h; first | (exfalso; omega) | ((try simp only [List.length_map] at h); first | (exfalso; omega) | (conv => whnf)))) | ((with_reducible apply XBr.beq) <;> (intro h; first | (exfalso; omega) | (conv => whnf))) | ((first | (with_reducible refine XInt.i64 (by omega) (by omega) ?_) | (refine XCall.ret how ?_) | (refine XCall.ret hf ?_)); conv => whnf) | ((with_reducible apply XBr.mk') <;> (intro h; conv => whnf)) | fail
          all_goals first | exact XAgainG.go 2 [.cells (ldC (uL l (b - ((1 : Nat) : Int))))] (by omega) (by omega) rfl ⟨rfl, rfl, rfl, rfl, trivial⟩ | (exfalso; exact absurd h (by decide)) | (exfalso; omega)
        · obtain ⟨out, hf0⟩ := few_is (uL l (b - 1)) (uL_ok o ⟨by omega, by omega⟩) (uL_W w _) h9
          have hf : Comp Try.prog 25 [.agg [.int .i64 (b - ((1 : Nat) : Int)), .int .i64 l.shrink, .sl false (l.sacks.map skA), .sl false (l.apart.map prA), .sl false (l.wth.map prA)]] (.tup [.sl false (nats out), natA (manyD (openD (uL l (b - 1)))), .int .i64 0]) := hf0
          clear hf0
          generalize manyD (openD (uL l (b - 1))) = mm at hf hm
          conv => whnf
          repeat' first | ((with_reducible apply XBr.tt); conv => whnf) | ((with_reducible apply XBr.dec) <;> (intro h; first | (exfalso; omega) | ((try simp only [List.length_map] at h); first | (exfalso; omega) | (conv => whnf)))) | ((with_reducible apply XBr.beq) <;> (intro h; first | (exfalso; omega) | (conv => whnf))) | ((first | (with_reducible refine XInt.i64 (by omega) (by omega) ?_) | (refine XCall.ret how ?_) | (refine XCall.ret hf ?_)); conv => whnf) | ((with_reducible apply XBr.mk') <;> (intro h; conv => whnf)) | fail
          all_goals first | exact XAgainG.go 2 [.cells (ldC (uL l (b - ((1 : Nat) : Int))))] (by omega) (by omega) rfl ⟨rfl, rfl, rfl, rfl, trivial⟩ | (exfalso; rw [decide_eq_false (show ¬ ((mm : Nat) : Int) ≤ (c : Int) by omega)] at h; exact absurd h (by decide)) | (exfalso; omega)
      · conv => whnf
        repeat' first | ((with_reducible apply XBr.dec) <;> (intro h; first | (exfalso; omega) | ((try simp only [List.length_map] at h); first | (exfalso; omega) | (conv => whnf)))) | ((first | (with_reducible refine XInt.i64 (by omega) (by omega) ?_) | (refine XCall.ret how ?_) | (refine XCall.ret awake_c ?_)); conv => whnf) | fail
        all_goals first | exact XOut.bool rfl | (exfalso; omega)
    · conv => whnf
      repeat' first | ((with_reducible apply XBr.dec) <;> (intro h; first | (exfalso; omega) | ((try simp only [List.length_map] at h); first | (exfalso; omega) | (conv => whnf)))) | ((refine XCall.ret awake_c ?_); conv => whnf) | fail
      exact XOut.bool rfl
end GA
end

section
namespace GA
open Go Go.RowKit Go.Proofs
set_option pp.deepTerms true
set_option maxRecDepth 8000
set_option linter.unusedVariables false
set_option linter.unusedSimpArgs false

def TryOk (l : Ld) (u1 q : Hp) (c S : Nat) : Prop :=
  XRun Try.prog tab 360 none [] (innerC (tailC 15 (theC Try.f6.body))) (blockX 8 (thenQ (XRun Try.prog tab 360 none [] (tailC 16 (theC Try.f6.body)) (XFn Try.prog tab [.tmp 6] (.bool true))) (XFn Try.prog tab [.tmp 6] (.bool true)))) [] (stX [(7, .ptr 1 0), (8, .ptr 2 0), (9, natA c), (16, natA S), (266, natA 0)]) [hpC u1, .cells (ldC l), hpC q, .dead, .dead, .dead, .dead, .dead]
theorem few_ex (l : Ld) (o : LdOk l) (w : LdW l) (c : Nat) (hc : c ≤ 9) : ∃ (x : AV) (mn : Nat) (ee : Int), Comp Try.prog 25 [ldA l] (.tup [x, natA mn, .int .i64 ee]) ∧ (ee = 0 ∨ ee = 6) ∧ ((ee = 0 ∧ mn ≤ c) ↔ manyD (openD l) ≤ c) := by
  by_cases h9 : 9 < manyD (openD l)
  · exact ⟨_, 0, 6, few_no l o w h9, .inr rfl, ⟨fun h => absurd h.1 (by decide), fun h => by omega⟩⟩
  · obtain ⟨out, h⟩ := few_is l o w h9
    exact ⟨_, _, 0, h, .inl rfl, ⟨fun h => h.2, fun h => ⟨rfl, h⟩⟩⟩
set_option maxHeartbeats 8000000 in
theorem sackFew_of (htry : ∀ (l : Ld) (o : LdOk l) (w : LdW l) (u1 q : Hp) (oq : q.Ok) (c : Nat), c ≤ 4 → TryOk l u1 q c (sumW (wts l) (bestN l c))) (n1 n2 : Bool) (xs ys : List Int) (p : Int) (hx : xs.length < 9223372036854775808) (hy : ys.length < 9223372036854775808) (hp : 0 ≤ p ∧ p ≤ 255) :
    Comp Try.prog 6 [.sl n1 (bytes xs), .sl n2 (bytes ys), .int .u8 p] (.bool true) := by
  have lo := madeL_ok (hp0 n1 xs) 7 3 (by omega) (by omega) (by omega) (by omega) (hp0_ok hx)
  have hmd := made_c (hp0 n1 xs) 7 3 (hp0_ok hx) (by omega) (by omega) (by omega) (by omega)
  have lw : LdW (madeL (hp0 n1 xs) 7 3) := ⟨fun h => by simpa [madeL] using h, by have := lo.n; omega, by have := lo.na; omega, by have := lo.nw; omega⟩
  generalize madeL (hp0 n1 xs) 7 3 = l at lo hmd lw
  generalize madeH (hp0 n1 xs) 7 3 = u1 at hmd
  have hq0 := hp0_ok (nl := n2) hy
  obtain ⟨c, hcc, hc4⟩ : ∃ c : Nat, p.tmod 5 = (c : Int) ∧ c ≤ 4 := ⟨(p.tmod 5).toNat, by
    have := Int.tmod_nonneg 5 hp.1
    omega, by
    have := Int.tmod_nonneg 5 hp.1
    have := Int.tmod_lt_of_pos p (show (0 : Int) < 5 by omega)
    omega⟩
  have e1 : ((l.sacks.map skA).length : Int) = l.sacks.length := by rw [List.length_map]
  have hn := lo.n
  have hE : ∀ z : Int, 0 ≤ z → z ≤ 9 → carE l z = 0 := fun z h1 h2 => by
    unfold carE
    rw [if_neg (fun h => h ((checkR_ok l).2 lo)), if_pos (inB_iff.2 ⟨h1, h2⟩)]
  have hb1 := bestX_c l (c : Int) lw
  have hb2 := bestX_c l ((c : Int) + 1) lw
  rw [if_pos (hE _ (by omega) (by omega))] at hb1 hb2
  rw [Int.toNat_natCast] at hb1
  rw [show ((c : Int) + 1).toNat = c + 1 by omega] at hb2
  have hmono := bestN_mono l (show c ≤ c + 1 by omega)
  have hall := best_all lo (show c ≤ 9 by omega)
  obtain ⟨x, mn, ee, hf, he, hfe⟩ := few_ex l lo lw c (by omega)
  have F := best_f lo (show c ≤ 9 by omega)
  have hso := sorted_c (bits (bestN l c)).isEmpty (bits (bestN l c)) (by have := F.l9; omega) F.a
  have htr := htry l lo lw u1 (hp0 n2 ys) hq0 c hc4
  have hS : sumW (wts l) (bestN l c) = sumW (wts l) (bestN l c) := rfl
  have hSb : sumW (wts l) (bestN l c) ≤ 900 := by
    have h := F.s
    have hw : ∀ k, k ≤ (bits (bestN l c)).length → wsum l ((bits (bestN l c)).take k) ≤ 100 * k := fun k => by
      induction k with
      | zero => intro _; show (0 : Int) ≤ 100 * ((0 : Nat) : Int); omega
      | succ k ih =>
        intro hk
        rw [wsum_take F.b (by omega)]
        have := ih (by omega)
        have hb := F.b _ (getD_mem (d := default) (show k < (bits (bestN l c)).length by omega))
        have := wr_b lo (i := ((bits (bestN l c)).getD k default).toNat) (by omega)
        omega
    have := hw _ (Nat.le_refl _)
    rw [List.take_length, h] at this
    have := F.l9
    omega
  have htot : totK l l.sacks.length = ((wts l).sum : Nat) := totK_end lo
  refine Comp.body (T := tab) (res := [.tmp 6]) tab_ok [] Try.func6 rfl (by kernel_rfl) Try.ntmps6 rfl (by simp only [List.length_cons, List.length_nil]; decide) (by simp only [lowL, AV.low, lowBy]; rfl) ?_; conv => whnf
  repeat' first | ((with_reducible refine XInt.i64 (by omega) (by omega) ?_); conv => whnf) | ((with_reducible refine XHold.mk ?_ ?_); (first | omega | rfl | decide | exact ⟨rfl, by decide, rfl⟩ | exact wideI _ | exact widePr _ | exact wideSk _ | (unfold Room; constructor <;> ((try simp) <;> omega)) | exact ⟨rfl, by simp only [List.length_map], by unfold Room; constructor <;> ((try simp) <;> omega)⟩ | exact ⟨by omega, by omega, by unfold Room; constructor <;> ((try simp) <;> omega)⟩); conv => whnf) | (refine XCall.inl (T := tab) (res := [.tmp 2]) tab_ok [5] Try.func8 rfl (by kernel_rfl) Try.ntmps8 rfl (by simp only [List.length_append, List.length_cons, List.length_nil]; decide) ?_; conv => whnf) | ((refine XCall.hp (j := 0) hmd (ldL _) rfl ?_); conv => whnf) | (rw [hcc]; conv => whnf) | fail
  refine Walk.heapX [hpC u1, .cells (ldC l), hpC (hp0 n2 ys)] rfl ?_
  refine Walk.loopK tab_ok [] [(7, _), (8, _), (9, _), (60, _)] ⟨rfl, rfl, rfl, rfl, trivial⟩ (fun k : Nat => k ≤ l.sacks.length ∧ 0 ≤ totK l k ∧ totK l k ≤ 100 * k) (fun k => [(10, .int .i64 (totK l k)), (61, natA k)]) (fun _ => [hpC u1, .cells (ldC l), hpC (hp0 n2 ys)]) (fun k => l.sacks.length - k) 0 ⟨Nat.zero_le _, by show (0 : Int) ≤ 0 ∧ (0 : Int) ≤ 100 * ((0 : Nat) : Int); omega⟩ rfl ⟨rfl, rfl, trivial⟩ ?_
  rintro k ⟨hk, hk1, hk2⟩
  conv => whnf
  by_cases hkl : k < l.sacks.length
  · have hlw := lawWeight_c l lo k hkl
    have hwb := wr_b lo hkl
    have htn := totK_next hkl
    repeat' first | ((with_reducible apply XBr.dec) <;> (intro h; first | (exfalso; omega) | ((try simp only [List.length_map] at h); first | (exfalso; omega) | (conv => whnf)))) | ((first | (with_reducible refine XInt.i64 (by omega) (by omega) ?_) | (refine XCall.ret hlw ?_)); conv => whnf) | fail
    exact XAgain.go (k + 1) ⟨by omega, by rw [htn]; omega, by rw [htn]; omega⟩ (by omega) rfl ⟨rfl, rfl, rfl, rfl, (by rw [htn]; rfl), rfl, trivial⟩
  obtain rfl : k = l.sacks.length := by omega
  rw [htot]
  generalize sumW (wts l) (bestN l (c + 1)) = S2 at hb2 hmono
  generalize (wts l).sum = tot at hall
  have F2 := F
  generalize hBB : bits (bestN l c) = B at hb1 hso F2
  generalize hSS : sumW (wts l) (bestN l c) = S at hb1 hmono hall hSb htr
  repeat' first | ((with_reducible apply XBr.dec) <;> (intro h; first | (exfalso; omega) | ((try simp only [List.length_map] at h); first | (exfalso; omega) | (conv => whnf)))) | ((first | (with_reducible refine XInt.i64 (by omega) (by omega) ?_) | (refine XCall.ret hf ?_) | (refine XCall.ret hb1 ?_) | (refine XCall.ret hb2 ?_)); conv => whnf) | fail
  have hA : ee = 0 → (((S : Int) == (tot : Int)) != decide ((mn : Int) ≤ (c : Int))) = false := fun h0 => by
    have h1 : ((S : Int) == (tot : Int)) = decide ((mn : Int) ≤ (c : Int)) := by
      rw [Bool.eq_iff_iff, beq_iff_eq, decide_eq_true_eq]
      constructor
      · intro h; have := hfe.2 (hall.1 (by omega)); omega
      · intro h; have := hall.2 (hfe.1 ⟨h0, by omega⟩); omega
    rw [h1]; exact bne_self_eq_false _
  have hB' : ee ≠ 0 → (((S : Int) == (tot : Int)) != false) = false := fun h0 => by
    have h1 : ((S : Int) == (tot : Int)) = false := by
      rw [beq_eq_false_iff_ne]
      intro h
      exact h0 (hfe.2 (hall.1 (by omega))).1
    rw [h1]; rfl
  refine Walk.norm tab_ok [] [(7, _), (8, _), (9, _), (10, _), (13, _), (14, _), (15, _), (16, _), (17, _), (19, _), (20, _)] ⟨rfl, rfl, rfl, rfl, rfl, rfl, rfl, rfl, rfl, rfl, rfl, trivial⟩ ?_
  conv => whnf
  repeat' first | ((first | (with_reducible apply XBr.tt) | (with_reducible apply XBr.ff)); conv => whnf) | (with_reducible apply XBr.not) | ((with_reducible apply XBr.dec) <;> (intro h; first | (exfalso; omega) | ((try simp only [List.length_map] at h); first | (exfalso; omega) | (conv => whnf)))) | ((with_reducible apply XBr.beq) <;> (intro h; first | (exfalso; omega) | (conv => whnf))) | ((with_reducible apply XBr.bne) <;> (intro h; first | (exfalso; omega) | (conv => whnf))) | ((refine XCall.ret hso ?_); conv => whnf) | ((with_reducible apply XBr.mk') <;> (intro h; conv => whnf)) | fail
  all_goals first
    | (exfalso; have h2 := hA (by assumption); rw [h] at h2; cases h2; done)
    | (exfalso; have h2 := hB' (by assumption); rw [h] at h2; cases h2; done)
    | skip
  all_goals
    refine Walk.keep tab_ok [] [hpC u1, .cells (ldC l), hpC (hp0 n2 ys), .cells [.int .i64 l.bears, .int .i64 l.shrink, .sl true [], .sl true [], .sl true []], .map []] [] [(7, .ptr 1 0), (8, .ptr 2 0), (9, natA c), (15, slA B), (16, natA S), (21, .ptr 3 0), (22, .int .i64 0), (23, .mp 4), (134, slA B), (135, .int .i64 ((ints B).length : Int)), (136, natA 0)] rfl ?_ ⟨⟨_, rfl, .same rfl⟩, ⟨_, rfl, .same rfl⟩, ⟨_, rfl, .same rfl⟩, ⟨_, rfl, .same (lowI _)⟩, ⟨_, rfl, .same rfl⟩, ⟨_, rfl, .same rfl⟩, ⟨_, rfl, .same rfl⟩, ⟨_, rfl, .same rfl⟩, ⟨_, rfl, .same (lowI _)⟩, ⟨_, rfl, .same rfl⟩, ⟨_, rfl, .same rfl⟩, trivial⟩ rfl ?_
    · intro z hz
      simp only [List.mem_cons, List.not_mem_nil, or_false] at hz
      rcases hz with rfl | rfl | rfl | rfl | rfl <;> first | exact hpC_low _ | exact lowLd _ | rfl
    exact fewOwn l lo lw u1 (hp0 n2 ys) c hc4 B F2 S hSS.symm htr
end GA
end

section
namespace GA
open Go Go.RowKit Go.Proofs
set_option pp.deepTerms true
set_option maxRecDepth 8000
set_option linter.unusedVariables false
set_option linter.unusedSimpArgs false

def kpL (p : Int → Bool) (xs : List Int) : List Int := xs.filter fun x => !p x
theorem kpL_next {p : Int → Bool} {xs : List Int} {j : Nat} (hj : j < xs.length) : kpL p (xs.take (j + 1)) = if p (xs.getD j default) = true then kpL p (xs.take j) else kpL p (xs.take j) ++ [xs.getD j default] := by
  unfold kpL
  rw [take_next hj, List.filter_append]
  by_cases h : p (xs.getD j default) = true
  · rw [if_pos h, List.filter_cons_of_neg (by rw [h]; simp), List.filter_nil, List.append_nil]
  · rw [if_neg h, List.filter_cons_of_pos (by simpa using h), List.filter_nil]
theorem kpL_all {p : Int → Bool} {xs : List Int} (h : ∀ x ∈ xs, p x = false) : kpL p xs = xs := List.filter_eq_self.2 fun x hx => by rw [h x hx]; rfl
theorem kpL_len (p : Int → Bool) (xs : List Int) : (kpL p xs).length ≤ xs.length := List.length_filter_le _ _
structure DelP (p : Int → Bool) (ys : List Int) (n j : Nat) (zs : List Int) : Prop where
  n : zs.length = ys.length
  h : zs.take (kpL p (ys.take j)).length = kpL p (ys.take j)
  t : ∀ i, j ≤ i → zs.getD i default = ys.getD i default
  lt : (kpL p (ys.take j)).length < j
theorem DelP.stay {p : Int → Bool} {ys zs : List Int} {n j : Nat} (o : DelP p ys n j zs) (hj : j < ys.length) (hv : p (ys.getD j default) = true) : DelP p ys n (j + 1) zs := by
  have e := kpL_next (p := p) hj
  rw [if_pos hv] at e
  exact ⟨o.n, by rw [e]; exact o.h, fun i hi => o.t i (by omega), by rw [e]; have := o.lt; omega⟩
theorem DelP.put {p : Int → Bool} {ys zs : List Int} {n j : Nat} (o : DelP p ys n j zs) (hj : j < ys.length) (hv : ¬ p (ys.getD j default) = true) : DelP p ys n (j + 1) (zs.set (kpL p (ys.take j)).length (ys.getD j default)) ∧ (kpL p (ys.take (j + 1))).length = (kpL p (ys.take j)).length + 1 := by
  have e := kpL_next (p := p) hj
  rw [if_neg hv] at e
  have hlt := o.lt
  have hn := o.n
  refine ⟨⟨by rw [List.length_set]; exact o.n, ?_, fun i hi => ?_, ?_⟩, by rw [e, List.length_append]; rfl⟩
  · rw [e, List.length_append]
    have hh := o.h
    generalize kpL p (ys.take j) = K at hlt hh
    show (zs.set K.length _).take (K.length + 1) = _
    rw [take_next (by rw [List.length_set]; omega)]
    congr 1
    · rw [List.take_set_of_le (Nat.le_refl _)]; exact hh
    · rw [List.getD_eq_getElem?_getD, List.getElem?_set_self (by omega)]; rfl
  · rw [List.getD_eq_getElem?_getD, List.getElem?_set_ne (by omega), ← List.getD_eq_getElem?_getD]
    exact o.t i (by omega)
  · rw [e, List.length_append, List.length_singleton]; omega
theorem getG_ints {xs : List Int} {n e : Nat} {k : List AV → Prop} (h1 : n = xs.length) (h2 : e < xs.length) (h : k [.int .i64 (xs.getD e default)]) : XGet (ints xs) n e k := by
  refine ⟨by rw [ints_lenG]; exact h1, by omega, ?_⟩
  have : (ints xs).getD e default = .int .i64 (xs.getD e default) := by
    unfold ints
    rw [List.getD_eq_getElem?_getD, List.getElem?_map, List.getD_eq_getElem?_getD, List.getElem?_eq_getElem h2]; rfl
  rw [this]; exact h
theorem putG_ints {xs : List Int} {n e : Nat} {v : Int} {k : List AV → Prop} (h1 : n = xs.length) (h2 : e < xs.length) (h : k (ints (xs.set e v))) : XPut (ints xs) n e (.int .i64 v) k := by
  refine ⟨by rw [ints_lenG]; exact h1, by omega, ?_⟩
  rw [show (ints xs).set e (.int .i64 v) = ints (xs.set e v) from (List.map_set (f := AV.int .i64)).symm]; exact h
theorem getG_at {xs : List Int} {n e : Nat} {k : List AV → Prop} (j : Nat) (he : e = j) (h1 : n = xs.length) (h2 : j < xs.length) (h : k [.int .i64 (xs.getD j default)]) : XGet (ints xs) n e k := by
  subst he; exact getG_ints h1 h2 h
theorem putG_at {xs : List Int} {n e : Nat} {v : Int} {k : List AV → Prop} (j : Nat) (he : e = j) (h1 : n = xs.length) (h2 : j < xs.length) (h : k (ints (xs.set j v))) : XPut (ints xs) n e (.int .i64 v) k := by
  subst he; exact putG_ints h1 h2 h
def clrL (zs : List Int) (K n : Nat) : List Int := zs.take K ++ List.replicate (n - K) 0 ++ zs.drop n
theorem clr_len {zs : List Int} {K n : Nat} (h1 : K ≤ n) (h2 : n ≤ zs.length) : (clrL zs K n).length = zs.length := by
  unfold clrL
  rw [List.length_append, List.length_append, List.length_take, List.length_replicate, List.length_drop]; omega
theorem clr_take {zs : List Int} {K n : Nat} (h1 : K ≤ n) (h2 : n ≤ zs.length) : (clrL zs K n).take K = zs.take K := by
  unfold clrL
  rw [List.append_assoc, List.take_append_of_le_length (by rw [List.length_take]; omega), List.take_take, Nat.min_self]
theorem clr_splice {zs : List Int} {K n : Nat} (h1 : K ≤ n) : splice (ints zs) K (List.replicate (n - K) (.int .i64 0)) = ints (clrL zs K n) := by
  unfold splice clrL ints
  rw [List.length_replicate, show K + (n - K) = n by omega, List.map_append, List.map_append, List.map_take, List.map_drop, List.map_replicate]
theorem putEls_to {els new : List AV} {o : Nat} {k : List AV → Prop} (els' : List AV) (e : splice els o new = els') (h : k els') : XPutEls els o new k := ⟨by rw [e]; exact h⟩
theorem delOs_a (g : FuncId) (caps : List AV) (p : Int → Bool) (hcap : lowL 0 caps = true) (m n : Nat) (ys : List Int) (hm : ys.length = m) (hn : n ≤ m) (hm0 : m ≤ 1000) (hp : ∀ x ∈ ys.take n, Comp Try.prog g (.int .i64 x :: caps) (.bool (p x))) :
    ACall Try.prog 30 [.os 0 m 0 n, .fn g caps] [.grow 3 false (ints ys)] fun r H' => ∃ zs : List Int, zs.length = m ∧ zs.take (kpL p (ys.take n)).length = kpL p (ys.take n) ∧ r = .os 0 m 0 (kpL p (ys.take n)).length ∧ H' = [.grow 3 false (ints zs)] := by
  have hix := idxf_int false (ys.take n) g caps p hcap (by rw [List.length_take]; omega) hp
  have htl : (ys.take n).length = n := by rw [List.length_take]; omega
  have hgt : ∀ j, j < n → (ys.take n).getD j default = ys.getD j default := fun j hj => by
    rw [List.getD_eq_getElem?_getD, List.getElem?_take, if_pos hj, List.getD_eq_getElem?_getD]
  have hfl : FrozL Try.prog [.grow 3 false (ints ys)] [.os 0 m 0 n, .fn g caps] [.sl false (ints (ys.take n)), .fn g caps] := by
    refine .cons ?_ (.cons (.low (by simp only [AV.low]; exact hcap)) .nil)
    have h := Froz.osG (P := Try.prog) (H := [.grow 3 false (ints ys)]) (i := 0) (m := m) (o := 0) (n := n) (t := 3) (nl := false) (els := ints ys) rfl (by rw [ints_lenG]; exact hm) (by omega) (lowI _)
    rw [List.drop_zero, show (ints ys).take n = ints (ys.take n) from (List.map_take (f := AV.int .i64)).symm] at h
    exact h
  have hyl : (ints ys).length = m := by rw [ints_lenG]; exact hm
  rcases idxR_cases p (ys.take n) with ⟨hr, hall⟩ | ⟨i, hr, hil, hip, hpre⟩
  · rw [hr] at hix
    have hk := kpL_all hall
    refine ACall.bodyK (T := tab) (res := [.tmp 4]) tab_ok [] Try.func30 rfl (by kernel_rfl) Try.ntmps30 rfl (by simp only [List.length_cons, List.length_nil]; decide) ?_; conv => whnf
    repeat' first | ((with_reducible apply XBr.beq) <;> (intro h; first | (exfalso; omega) | (conv => whnf))) | ((refine XCall.lend hix hfl rfl ?_); conv => whnf) | fail
    refine ⟨_, [], (List.append_nil _).symm, rfl, fun x hx => by rw [List.mem_singleton] at hx; subst hx; exact lowI _, List.nodup_nil, nofun, rfl, ys, hm, by rw [hk, htl], by rw [hk, htl]; rfl, rfl⟩
  · rw [hr] at hix
    rw [htl] at hil
    rw [hgt i hil] at hip
    have hk0 : kpL p (ys.take i) = ys.take i := kpL_all fun x hx => hpre x (by rw [List.take_take, Nat.min_eq_left (by omega)]; exact hx)
    have hk1 : kpL p (ys.take (i + 1)) = ys.take i := by rw [kpL_next (by omega), if_pos hip, hk0]
    have hl1 : (ys.take i).length = i := by rw [List.length_take]; omega
    refine ACall.bodyK (T := tab) (res := [.tmp 4]) tab_ok [] Try.func30 rfl (by kernel_rfl) Try.ntmps30 rfl (by simp only [List.length_cons, List.length_nil]; decide) ?_; conv => whnf
    repeat' first | ((with_reducible apply XBr.beq) <;> (intro h; first | (exfalso; omega) | (conv => whnf))) | ((first | (with_reducible refine XInt.i64 (by omega) (by omega) ?_) | (refine XCall.lend hix hfl rfl ?_)); conv => whnf) | fail
    refine Walk.loop tab_ok [] (fun x : Nat × List Int => x.1 ≤ n ∧ DelP p ys n x.1 x.2) (fun x => [(0, .os 0 m 0 n), (1, .fn g caps), (4, .sl true []), (5, natA (kpL p (ys.take x.1)).length), (6, natA x.1)]) (fun x => [.grow 3 false (ints x.2)]) (fun x => n - x.1) (i + 1, ys) ⟨by dsimp only; omega, rfl, by rw [hk1, hl1], fun _ _ => rfl, by rw [hk1, hl1]; dsimp only; omega⟩ rfl ⟨rfl, rfl, rfl, ?_, rfl, trivial⟩ ?_
    · show some (AV.int .i64 _) = some (natA (kpL p (ys.take (i + 1))).length)
      rw [hk1, hl1]; rfl
    rintro ⟨j, zs⟩ ⟨hj, o⟩
    dsimp only at hj o ⊢
    have hzn := o.n
    have hzl : (ints zs).length = m := by rw [ints_lenG]; omega
    have hlt := o.lt
    have hg : zs.getD j default = ys.getD j default := o.t j (Nat.le_refl _)
    have hst := fun h h' => o.stay (h : j < ys.length) h'
    have hpu := fun h h' => o.put (h : j < ys.length) h'
    have hoh := o.h
    have hks : j < ys.length → p (ys.getD j default) = true → kpL p (ys.take (j + 1)) = kpL p (ys.take j) := fun h h' => by rw [kpL_next h, if_pos h']
    obtain ⟨K, hK⟩ : ∃ K, K = (kpL p (ys.take j)).length := ⟨_, rfl⟩
    rw [← hK] at hlt hpu ⊢
    conv => whnf
    by_cases hjn : j < n
    · have hcp := hp (ys.getD j default) (by rw [← hgt j hjn]; exact getD_mem (by rw [htl]; exact hjn))
      rw [← hg] at hcp hst hpu hks
      cases hpv : p (zs.getD j default) with
      | true =>
        rw [hpv] at hcp
        repeat' first | ((with_reducible apply XBr.tt); conv => whnf) | (with_reducible apply XBr.not) | ((with_reducible apply XBr.dec) <;> (intro h; first | (exfalso; omega) | ((try simp only [List.length_map] at h); first | (exfalso; omega) | (conv => whnf)))) | ((first | (with_reducible refine XInt.i64 (by omega) (by omega) ?_) | (refine XHold.mk ⟨hzl, rfl, by omega, by omega⟩ ?_) | (refine getG_at j (by omega) (by omega) (by omega) ?_) | (refine XCall.ret hcp ?_)); conv => whnf) | fail
        refine XAgain.go (j + 1, zs) ⟨by dsimp only; omega, hst (by omega) hpv⟩ (by dsimp only; omega) rfl ⟨rfl, rfl, rfl, ?_, rfl, trivial⟩
        show some (AV.int .i64 _) = some (natA (kpL p (ys.take (j + 1))).length)
        rw [hks (by omega) hpv, ← hK]; rfl
      | false =>
        rw [hpv] at hcp
        repeat' first | ((with_reducible apply XBr.ff); conv => whnf) | (with_reducible apply XBr.not) | ((with_reducible apply XBr.dec) <;> (intro h; first | (exfalso; omega) | ((try simp only [List.length_map] at h); first | (exfalso; omega) | (conv => whnf)))) | ((first | (with_reducible refine XInt.i64 (by omega) (by omega) ?_) | (refine XHold.mk ⟨hzl, rfl, by omega, by omega⟩ ?_) | (refine getG_at j (by omega) (by omega) (by omega) ?_) | (refine XCall.ret hcp ?_) | (refine putG_at K (by omega) (by omega) (by omega) ?_)); conv => whnf) | fail
        obtain ⟨q1, q2⟩ := hpu (by omega) (by rw [hpv]; simp)
        refine XAgain.go (j + 1, zs.set K (zs.getD j default)) ⟨by dsimp only; omega, q1⟩ (by dsimp only; omega) rfl ⟨rfl, rfl, rfl, ?_, rfl, trivial⟩
        show some (AV.int .i64 _) = some (natA (kpL p (ys.take (j + 1))).length)
        rw [q2]; rfl
    obtain rfl : j = n := by omega
    have hKn : K ≤ j := by omega
    have hcs := clr_splice (zs := zs) hKn
    have hcl := clr_len (zs := zs) hKn (by omega)
    have hct := clr_take (zs := zs) hKn (by omega)
    have hcs' : splice (ints zs) (0 + ((K : Nat) : Int).toNat) (List.take ((j : Int) - (K : Int)).toNat (List.replicate ((j : Int) - (K : Int)).toNat (AV.int .i64 0))) = ints (clrL zs K j) := by
      rw [show 0 + ((K : Nat) : Int).toNat = K by omega, show ((j : Int) - (K : Int)).toNat = j - K by omega, List.take_of_length_le (by rw [List.length_replicate]; exact Nat.le_refl _)]
      exact hcs
    have hcl2 : (ints (clrL zs K j)).length = m := by rw [ints_lenG]; omega
    repeat' first | ((with_reducible apply XBr.dec) <;> (intro h; first | (exfalso; omega) | ((try simp only [List.length_map] at h); first | (exfalso; omega) | (conv => whnf)))) | ((first | (refine XHold.mk ⟨⟨by omega, by omega, by omega⟩, hzl, rfl⟩ ?_) | (refine XHold.mk ⟨rfl, hzl, by omega⟩ ?_) | (refine putEls_to _ hcs' ?_) | (refine XHold.mk ⟨⟨by omega, by omega, by omega⟩, hcl2, rfl⟩ ?_)); conv => whnf) | fail
    refine ⟨_, [], (List.append_nil _).symm, rfl, fun x hx => by rw [List.mem_singleton] at hx; subst hx; exact lowI _, List.nodup_nil, nofun, rfl, clrL zs K j, by omega, by rw [← hK, hct, hK]; exact hoh, ?_, rfl⟩
    rw [← hK]
    show AV.os 0 m (0 + Int.toNat 0) ((K : Int) - 0).toNat = _
    rw [show ((K : Int) - 0).toNat = K by omega]; rfl
theorem XCall.delOs {g : FuncId} {caps : List AV} {p : Int → Bool} (hcap : lowL 0 caps = true) {m n i : Nat} {ys : List Int} (hm : ys.length = m) (hn : n ≤ m) (hm0 : m ≤ 1000) (hp : ∀ x ∈ ys.take n, Comp Try.prog g (.int .i64 x :: caps) (.bool (p x))) {H : List Blk} {k : AV → List Blk → Prop} (h0 : lget H i = some (.grow 3 false (ints ys)))
    (hk : ∀ zs : List Int, zs.length = m → zs.take (kpL p (ys.take n)).length = kpL p (ys.take n) → k (.os i m 0 (kpL p (ys.take n)).length) (H.set i (.grow 3 false (ints zs)))) : XCall Try.prog 30 [.os i m 0 n, .fn g caps] H k := by
  constructor
  have e := ACall.frame (ρ := fun j => i + j) (H := H) (k := k) (delOs_a g caps p hcap m n ys hm hn hm0 hp) (fun a b ha hb _ => by simp at ha hb; omega) ?_ (fun y hy => by simp at hy; subst hy; exact lowI _) ?_ ?_
  · have hd : ([AV.os 0 m 0 n, .fn g caps]).map (AV.ren fun j => i + j) = [.os i m 0 n, .fn g caps] := by
      show [AV.os (i + 0) m 0 n, .fn g (renL _ caps)] = _
      rw [renL_low0 hcap]; rfl
    rw [hd] at e
    exact e
  · intro j x1 hj
    rw [lget_eq] at h0
    rcases j with _ | j
    · simp only [List.getElem?_cons_zero, Option.some.injEq] at hj; subst hj
      show H[i + 0]? = _
      rw [ren_grow]; exact h0
    · simp at hj
  · simp only [lowL, AV.low, lowL_mono (Nat.zero_le _) hcap]; rfl
  · rintro r1 H1' ⟨zs, h1, h2, rfl, rfl⟩
    rw [lget_eq] at h0
    have hj := (List.getElem?_eq_some_iff.1 h0).1
    refine ⟨rfl, H.set i (.grow 3 false (ints zs)), by simp, fun j x1 hj' => ?_, fun q hq => ?_, hk zs h1 h2⟩
    · rcases j with _ | j
      · simp only [List.getElem?_cons_zero, Option.some.injEq] at hj'; subst hj'
        show (H.set i _)[i + 0]? = _
        rw [ren_grow]; simp [hj]
      · simp at hj'
    · exact List.getElem?_set_ne (by have := hq 0 (by simp); simpa using this)
end GA
end

section
namespace GA
open Go Go.RowKit
set_option linter.unusedVariables false

section
variable {P : Program} {N : Nat} {ρ : Option Nat} {E : Env} {h : Nat → Option Obj} {β : Nat → Value} {H : List Blk} {w : World} {σ : St}
theorem gr_os (s : SR P E h β H w) {i n : Nat} {te : TypeId} {nl : Bool} {els : List AV} (e1 : H[i]? = some (.grow te nl els)) (hm : els.length = n) (n0 : 0 < n) {v : Value} (hr : Rep P h β H (.gr i n) v) : Rep P h β H (.os i n 0 n) v := by
  subst hm
  cases hr with
  | gr ho hi hv =>
    have hv' := (hv _ _ _ e1).2 rfl
    subst hv'
    rcases s.blk i _ e1 with ⟨_, h7, _⟩ | ⟨_, h7, _⟩ | ⟨_, b', cap', c, h8, h9, h10, h11, _⟩
    · subst h7; simp at n0
    · subst h7; simp at n0
    · rw [h8]
      refine .os hi h11 (fun cs e => by rw [e1] at e; cases e) (fun t nl' els' e => ?_) (fun _ t nl' els' e hl => ?_)
      · rw [e1] at e; cases e
        exact ⟨Nat.le_refl _, fun _ _ => ⟨by omega, by rw [Nat.zero_mul], _, _, h8⟩⟩
      · rw [e1] at e; cases e
        exact ⟨rfl, Nat.le_refl _, _, h8⟩
theorem Walk.asOs {c : Code} {Q : Post} {D : List Nat} (u i n : Nat) {t : TypeId} {nl : Bool} {els : List AV} (hu : σ u = some (.gr i n)) (hi : lget H i = some (.grow t nl els)) (hn : els.length = n) (n0 : 0 < n) (x : Walk P N ρ c Q D (updX σ u (.os i n 0 n)) H) : Walk P N ρ c Q D σ H := by
  constructor
  intro E h β a w s
  rw [lget_eq] at hi
  refine x.o E h β a w ⟨s.sr, fun t' r e => ?_, s.size, s.df⟩
  rw [updX_eq] at e; unfold upd at e
  split at e
  · rename_i hh; subst hh; cases e
    obtain ⟨v, h1, h2⟩ := s.fits _ _ hu
    exact ⟨v, h1, gr_os s.sr hi hn n0 h2⟩
  · exact s.fits t' r e
end
end GA
end

section
namespace GA
open Go Go.RowKit Go.Proofs
set_option maxRecDepth 8000
set_option linter.unusedVariables false
set_option linter.unusedSimpArgs false

theorem sumW_b {l : Ld} (o : LdOk l) {s : Nat} (hs : s < 2 ^ l.sacks.length) : sumW (wts l) s ≤ 900 := by
  have hp := pow9 o.n
  have hb := bits_in o.n hs
  have hw : ∀ k, k ≤ (bits s).length → wsum l ((bits s).take k) ≤ 100 * k := fun k => by
    induction k with
    | zero => intro _; show (0 : Int) ≤ 100 * ((0 : Nat) : Int); omega
    | succ k ih =>
      intro hk
      rw [wsum_take hb (by omega)]
      have := ih (by omega)
      have hb := hb _ (getD_mem (d := default) (show k < (bits s).length by omega))
      have := wr_b o (i := ((bits s).getD k default).toNat) (by omega)
      omega
  have := hw _ (Nat.le_refl _)
  rw [List.take_length, wsum_bits o hs] at this
  have h9 := asc_len (bits_asc o.n hs) hb (Int.natCast_nonneg _)
  have := o.n
  omega
theorem set_wsum {l : Ld} (o : LdOk l) {bs : List Bool} (hb : bs.length = l.sacks.length) : wsum l (lsK bs l.sacks.length) = (sumW (wts l) (setN bs) : Int) := by
  have hlt : setN bs < 2 ^ l.sacks.length := by rw [← hb]; exact setN_lt bs
  have hbs : bs = boolN l.sacks.length (setN bs) := bool_ext hb fun k _ => (setN_bit bs k).symm
  have hls : lsN bs = bits (setN bs) := (congrArg lsN hbs).trans (bits_ls o.n hlt)
  rw [← wsum_bits o hlt, ← hls]
  unfold lsN
  rw [hb]
structure TryF (l : Ld) (g : Nat) (T : Nat) (L : List Int) : Prop where
  lt : T < 2 ^ l.sacks.length
  pk : ∃ k, k ≤ g ∧ Pk (rightB (openD l)) k T
  b : ∀ x ∈ L, 0 ≤ x ∧ x < l.sacks.length
  t : ∀ x ∈ L, T.testBit x.toNat = false
theorem TryF.beg {l : Ld} {L : List Int} (h : ∀ x ∈ L, 0 ≤ x ∧ x < l.sacks.length) : TryF l 0 0 L := ⟨Nat.two_pow_pos _, ⟨0, Nat.le_refl _, .nil⟩, h, fun x _ => Nat.zero_testBit _⟩
theorem TryF.no {l : Ld} {g T : Nat} {L : List Int} (h : TryF l g T L) : TryF l (g + 1) T L := ⟨h.lt, h.pk.elim fun k hk => ⟨k, by omega, hk.2⟩, h.b, h.t⟩
theorem TryF.go {l : Ld} (o : LdOk l) {g T : Nat} {L : List Int} (h : TryF l g T L) {bs : List Bool} (hl : bs.length = l.sacks.length) (hbs : ∀ i : Nat, bs.getD i false = true → (i : Int) ∈ L) (hr : rightB (openD l) (setN bs) = true) :
    TryF l (g + 1) (T ||| setN bs) (kpL (fun x => bs.getD x.toNat default) L) ∧ sumW (wts l) (T ||| setN bs) = sumW (wts l) T + sumW (wts l) (setN bs) := by
  have hlt : setN bs < 2 ^ l.sacks.length := by rw [← hl]; exact setN_lt bs
  have hd : ∀ i, ¬ (T.testBit i = true ∧ (setN bs).testBit i = true) := fun i ⟨h1, h2⟩ => by
    rw [setN_bit] at h2
    have h3 := h.t _ (hbs i h2)
    rw [Int.toNat_natCast, h1] at h3; cases h3
  obtain ⟨k, hk, hp⟩ := h.pk
  obtain ⟨k', hk', hp'⟩ := hp.more hr hd
  have hmem : ∀ x ∈ kpL (fun x => bs.getD x.toNat default) L, x ∈ L ∧ bs.getD x.toNat default = false := fun x hx => by
    have := List.mem_filter.1 hx
    exact ⟨this.1, by simpa using this.2⟩
  refine ⟨⟨Nat.or_lt_two_pow h.lt hlt, ⟨k', by omega, hp'⟩, fun x hx => h.b x (hmem x hx).1, fun x hx => ?_⟩, sumW_or _ hd⟩
  rw [Nat.testBit_or, h.t x (hmem x hx).1, setN_bit, Bool.false_or]
  exact (hmem x hx).2
theorem TryF.le {l : Ld} {c g T : Nat} {L : List Int} (h : TryF l g T L) (hg : g ≤ c) : sumW (wts l) T ≤ sumW (wts l) (bestN l c) := by
  obtain ⟨k, hk, hp⟩ := h.pk
  exact bestN_max h.lt (by omega) hp
end GA
end

section
namespace GA
open Go Go.RowKit Go.Proofs
set_option pp.deepTerms true
set_option maxRecDepth 8000
set_option linter.unusedVariables false
set_option linter.unusedSimpArgs false

theorem FrozN.ptrN {P : Program} {H : List Blk} {n i o : Nat} {cs cs' : List AV} (hi : n ≤ i) (hb : lget H i = some (.cells cs)) (hone : ∀ x ∈ cs', x.one = true) (hs : FrozNL P n H (cs.drop o) cs') : FrozN P n H (.ptr i o) (.pim cs') := by
  rw [lget_eq] at hb
  intro E h β w s v hr H1
  cases hr with
  | @ptr _ _ b hl h1 =>
    have hβ := h1 cs hb
    obtain ⟨b', c, t, h2, h3, h4, h5, us, h6, h7⟩ := s.blk i _ hb
    rw [hβ] at h2; cases h2
    have hbo : blkOf β H i = some b := by simp only [blkOf, hb, hβ]; rfl
    refine .pim (fun j => us (o + j)) hone ((hallN_own hi hbo).trans h3) (fun j x e => ?_) (fun j x e => ?_)
    · obtain ⟨y, e1, _⟩ := hs.2 j x e; rw [List.getElem?_drop] at e1; exact h6 _ y e1
    · obtain ⟨y, e1, e2⟩ := hs.2 j x e; rw [List.getElem?_drop] at e1; exact e2 E h β w s _ (h7 _ y e1) H1
theorem sf1_c (nl : Bool) (bs : List Bool) (x : Int) (h1 : 0 ≤ x) (h2 : x < bs.length) :
    Comp Try.prog 31 [.int .i64 x, .pim [.sl nl (bools bs)]] (.bool (bs.getD x.toNat default)) := by
  refine Comp.body (T := tab) (res := [.tmp 3]) tab_ok [] Try.func31 rfl (by kernel_rfl) Try.ntmps31 rfl (by simp only [List.length_cons, List.length_nil]; decide) (by simp only [lowL, AV.low, lowBo]; rfl) ?_; conv => whnf
  have e1 : ((bools bs).length : Int) = bs.length := by rw [List.length_map]
  repeat' first | (((with_reducible refine XIx.map ?_ ?_ ?_ ?_); omega; omega; (intro _; rfl)); conv => whnf) | fail
  all_goals exact XOut.bool (by first | rfl | (rw [h]; rfl))
theorem del0_c (g : FuncId) (caps : List AV) (hcap : lowL 0 caps = true) :
    Comp Try.prog 30 [.sl true [], .fn g caps] (.sl true []) := by
  have hix := idxf_int true [] g caps (fun _ : Int => false) hcap (by decide) (fun x hx => by cases hx)
  rcases idxR_cases (fun _ : Int => false) ([] : List Int) with ⟨hr, hall⟩ | ⟨i, hr, hil, hip, hpre⟩
  · rw [hr] at hix
    refine Comp.body (T := tab) (res := [.tmp 4]) tab_ok [] Try.func30 rfl (by kernel_rfl) Try.ntmps30 rfl (by simp only [List.length_cons, List.length_nil]; decide) (by simp only [lowL, AV.low, hcap]; rfl) ?_; conv => whnf
    repeat' first | ((with_reducible apply XBr.beq) <;> (intro h; first | (exfalso; omega) | (conv => whnf))) | ((refine XCall.ret hix ?_); conv => whnf) | fail
    all_goals exact XOut.mk (Froz.low rfl)
  · cases hip
set_option maxHeartbeats 8000000 in
theorem fewTry (l : Ld) (o : LdOk l) (w : LdW l) (u1 q : Hp) (oq : q.Ok) (c : Nat) (hc : c ≤ 4) : TryOk l u1 q c (sumW (wts l) (bestN l c)) := by
  /-
  refine Comp.body (T := tab) (res := [.tmp 6]) tab_ok [] Try.func6 rfl (by kernel_rfl) Try.ntmps6 rfl (by simp only [List.length_cons, List.length_nil]; decide) (by rfl) ?_; conv => whnf
  -/
  unfold TryOk
  have hSb := sumW_b o (bestN_lt l c)
  have hle := fun g T L (h : TryF l g T L) (hg : g ≤ c) => h.le hg
  generalize sumW (wts l) (bestN l c) = S at hSb hle
  have hn := o.n
  have e1 : ((l.sacks.map skA).length : Int) = l.sacks.length := by rw [List.length_map]
  conv => whnf
  refine Walk.thenKeep ?_
  refine Walk.loopGK tab_ok [] [(7, _), (8, _), (9, _), (16, _)] ⟨rfl, rfl, rfl, rfl, trivial⟩ (fun p : Nat × Hp => p.1 ≤ 5 ∧ p.2.Ok) (fun p => [(266, natA p.1)]) (fun p => [hpC u1, .cells (ldC l), hpC p.2, .dead, .dead, .dead, .dead, .dead]) (fun p => 5 - p.1) (0, q) ⟨Nat.zero_le _, oq⟩ rfl ⟨rfl, trivial⟩ ?_ (fun _ _ => Nat.le_refl _) ?_
  · rintro ⟨r, v⟩ _
    refine ⟨fun z hz => ?_, fun z hz => ?_⟩
    · simp only [List.mem_cons, List.not_mem_nil, or_false] at hz
      rcases hz with rfl | rfl | rfl | rfl | rfl | rfl | rfl | rfl <;> first | exact hpC_low _ | exact lowLd _ | rfl
    · simp only [List.cons_append, List.nil_append, List.mem_cons, List.not_mem_nil, or_false] at hz
      rcases hz with rfl | rfl | rfl | rfl | rfl <;> rfl
  rintro ⟨r, v⟩ ⟨hr, ov⟩
  dsimp only at hr ov ⊢
  conv => whnf
  by_cases hr5 : r < 5
  · by_cases hn0 : l.sacks.length = 0
    · skip
      repeat' first | ((with_reducible apply XBr.dec) <;> (intro h; first | (exfalso; omega) | ((try simp only [List.length_map] at h); first | (exfalso; omega) | (conv => whnf)))) | (rw [e1, hn0]; conv => whnf) | ((refine XCall.hp (j := 2) (order_c v 0 ov (by omega)) rfl rfl ?_); conv => whnf) | fail
      refine Walk.loopGK tab_ok [] [(7, _), (8, _), (9, _), (16, _), (266, _), (273, _)] ⟨rfl, rfl, rfl, rfl, rfl, rfl, trivial⟩ (fun g : Nat => g ≤ c) (fun g => [(37, natA 0), (38, .sl true []), (274, natA g)]) (fun _ => [hpC u1, .cells (ldC l), hpC v, .dead, .dead, .dead, .dead, .dead]) (fun g => c - g) 0 (Nat.zero_le _) rfl ⟨rfl, rfl, rfl, trivial⟩ ?_ (fun _ _ => Nat.le_refl _) ?_
      · intro g _
        refine ⟨fun z hz => ?_, fun z hz => ?_⟩
        · simp only [List.mem_cons, List.not_mem_nil, or_false] at hz
          rcases hz with rfl | rfl | rfl | rfl | rfl | rfl | rfl | rfl <;> first | exact hpC_low _ | exact lowLd _ | rfl
        · simp only [List.cons_append, List.nil_append, List.mem_cons, List.not_mem_nil, or_false] at hz
          rcases hz with rfl | rfl | rfl | rfl | rfl | rfl | rfl | rfl | rfl <;> rfl
      intro g hg
      conv => whnf
      by_cases hgc : g < c
      · skip
        repeat' first | ((with_reducible apply XBr.dec) <;> (intro h; first | (exfalso; omega) | ((try simp only [List.length_map] at h); first | (exfalso; omega) | (conv => whnf)))) | ((with_reducible refine XHold.mk ?_ ?_); (first | omega | rfl | decide | exact ⟨rfl, by decide, rfl⟩ | exact wideI _ | exact widePr _ | exact wideSk _ | (unfold Room; constructor <;> ((try simp) <;> omega)) | exact ⟨rfl, by simp only [List.length_map], by unfold Room; constructor <;> ((try simp) <;> omega)⟩ | exact ⟨by omega, by omega, by unfold Room; constructor <;> ((try simp) <;> omega)⟩); conv => whnf) | (rw [e1, hn0]; conv => whnf) | fail
        refine Walk.heapX [hpC u1, .cells (ldC l), hpC v, .dead, .dead, .dead, .dead, .dead, .grow 4 false (bools []), .cells [.gr 8 0]] rfl ?_
        refine Walk.thenKeep ?_
        refine Walk.loopK tab_ok [] [(7, _), (8, _), (9, _), (16, _), (37, _), (38, _), (39, _), (266, _), (273, _), (274, _), (280, _), (281, _)] ⟨rfl, rfl, rfl, rfl, rfl, rfl, rfl, rfl, rfl, rfl, rfl, rfl, trivial⟩ (fun _ : Unit => True) (fun _ => [(282, natA 0)]) (fun _ => [hpC u1, .cells (ldC l), hpC v, .dead, .dead, .dead, .dead, .dead, .grow 4 false (bools []), .cells [.gr 8 0]]) (fun _ => 0) () trivial rfl ⟨rfl, trivial⟩ ?_
        intro _ _
        conv => whnf
        repeat' first | ((with_reducible apply XBr.dec) <;> (intro h; first | (exfalso; omega) | ((try simp only [List.length_map] at h); first | (exfalso; omega) | (conv => whnf)))) | fail
        · exact absurd h (by decide)
        refine XKeepE.go [hpC u1, .cells (ldC l), hpC v, .dead, .dead, .dead, .dead, .dead] _ [(7, .ptr 1 0), (8, .ptr 2 0), (9, natA c), (16, natA S), (37, natA 0), (38, .sl true []), (39, .pim [.sl false (bools [])]), (266, natA r), (273, natA c), (274, natA g)] rfl (fun z hz => ?_) ⟨⟨_, rfl, .same rfl⟩, ⟨_, rfl, .same rfl⟩, ⟨_, rfl, .same rfl⟩, ⟨_, rfl, .same rfl⟩, ⟨_, rfl, .same rfl⟩, ⟨_, rfl, .same rfl⟩, ⟨_, rfl, .inl (FrozN.ptrN (cs' := [.sl false (bools [])]) (show 8 ≤ 9 by decide) rfl (by intro v hv; rw [List.mem_singleton] at hv; subst hv; rfl) (.cons (FrozN.grow (show 8 ≤ 8 by decide) rfl rfl rfl) .nil))⟩, ⟨_, rfl, .same rfl⟩, ⟨_, rfl, .same rfl⟩, ⟨_, rfl, .same rfl⟩, trivial⟩ ?_
        · simp only [List.mem_cons, List.not_mem_nil, or_false] at hz
          rcases hz with rfl | rfl | rfl | rfl | rfl | rfl | rfl | rfl <;> first | exact hpC_low _ | exact lowLd _ | rfl
        refine blockX_then ?_
        have hlr := lawRight_c l o false [] (by rw [hn0]; rfl)
        have hdl := del0_c 31 [.pim [.sl false (bools [])]] (by simp only [lowL, AV.low, lowBo]; rfl)
        conv => whnf
        cases hrb : lawRightB l [] with
        | false =>
          rw [hrb] at hlr
          repeat' first | ((first | (with_reducible apply XBr.ff) | (with_reducible refine XInt.i64 (by omega) (by omega) ?_) | (refine XCall.ret hlr ?_)); conv => whnf) | fail
          exact XAgainG.go (g + 1) [.dead, .dead] (by omega) (by omega) rfl ⟨rfl, rfl, rfl, rfl, rfl, rfl, rfl, rfl, rfl, trivial⟩
        | true =>
          rw [hrb] at hlr
          repeat' first | ((first | (with_reducible apply XBr.tt) | (refine XCall.ret hlr ?_) | (refine XCall.ret hdl ?_)); conv => whnf) | fail
          refine Walk.loopK tab_ok [] [(7, _), (8, _), (9, _), (16, _), (37, _), (38, _), (266, _), (273, _), (274, _), (298, _), (299, _)] ⟨rfl, rfl, rfl, rfl, rfl, rfl, rfl, rfl, rfl, rfl, rfl, trivial⟩ (fun _ : Unit => True) (fun _ => [(300, natA 0)]) (fun _ => [hpC u1, .cells (ldC l), hpC v, .dead, .dead, .dead, .dead, .dead, .dead, .dead]) (fun _ => 0) () trivial rfl ⟨rfl, trivial⟩ ?_
          intro _ _
          conv => whnf
          repeat' first | ((with_reducible apply XBr.dec) <;> (intro h; first | (exfalso; omega) | ((try simp only [List.length_map] at h); first | (exfalso; omega) | (conv => whnf)))) | ((with_reducible refine XInt.i64 (by omega) (by omega) ?_); conv => whnf) | fail
          exact XAgainG.go (g + 1) [.dead, .dead] (by omega) (by omega) rfl ⟨rfl, rfl, rfl, rfl, rfl, rfl, rfl, rfl, rfl, trivial⟩
      obtain rfl : g = c := by omega
      repeat' first | ((with_reducible apply XBr.dec) <;> (intro h; first | (exfalso; omega) | ((try simp only [List.length_map] at h); first | (exfalso; omega) | (conv => whnf)))) | ((with_reducible refine XInt.i64 (by omega) (by omega) ?_); conv => whnf) | fail
      all_goals first
        | exact XAgainG.go (r + 1, v) [] ⟨by dsimp only; omega, ov⟩ (by dsimp only; omega) rfl ⟨rfl, rfl, rfl, rfl, rfl, trivial⟩
        | (exfalso; omega)
    repeat' first | ((with_reducible apply XBr.dec) <;> (intro h; first | (exfalso; omega) | ((try simp only [List.length_map] at h); first | (exfalso; omega) | (conv => whnf)))) | (refine XCall.inl (T := tab) (res := [.tmp 4]) tab_ok [17] Try.func19 rfl (by kernel_rfl) Try.ntmps19 rfl (by simp only [List.length_append, List.length_cons, List.length_nil]; decide) ?_; conv => whnf) | fail
    have okk := ordK_ok ov
    refine Walk.nilgr 5 3 rfl ?_
    refine Walk.loopGK tab_ok [17] [(0, _), (4, _), (8, _)] ⟨rfl, rfl, rfl, trivial⟩ (fun k : Nat => k ≤ l.sacks.length) (fun k => [(5, .gr 8 k), (9, natA k)]) (fun k => [hpC u1, .cells (ldC l), hpC (ordK v k).2, .dead, .dead, .dead, .dead, .dead, .grow 3 (ordK v k).1.isEmpty (ints (ordK v k).1)]) (fun k => l.sacks.length - k) 0 (Nat.zero_le _) rfl ⟨rfl, rfl, trivial⟩ ?_ (fun _ _ => Nat.le_refl _) ?_
    · intro k _
      refine ⟨fun z hz => ?_, fun z hz => ?_⟩
      · simp only [List.mem_cons, List.not_mem_nil, or_false] at hz
        rcases hz with rfl | rfl | rfl | rfl | rfl | rfl | rfl | rfl | rfl <;> first | exact hpC_low _ | exact lowLd _ | exact lowI _ | rfl
      · simp only [List.cons_append, List.nil_append, List.mem_cons, List.not_mem_nil, or_false] at hz
        rcases hz with rfl | rfl | rfl | rfl | rfl <;> rfl
    intro k hk
    obtain ⟨vo, vl⟩ := okk k
    have hnx : ordK v (k + 1) = (putAt (ordK v k).1 (modV (ordK v k).2 k).toNat k, hpS (ordK v k).2) := rfl
    have hfin : k = l.sacks.length → ordK v l.sacks.length = ordK v k := fun h => by rw [h]
    have hmem := ordK_mem v k
    generalize ordK v k = oq at vo vl hnx hfin hmem
    obtain ⟨ys, v2⟩ := oq
    dsimp only at vo vl hnx hfin hmem
    have b1 := modV_bound v2 k
    conv => whnf
    by_cases hkl : k < l.sacks.length
    · skip
      repeat' first | ((with_reducible apply XBr.dec) <;> (intro h; first | (exfalso; omega) | ((try simp only [List.length_map] at h); first | (exfalso; omega) | (conv => whnf)))) | ((with_reducible refine XInt.i64 (by omega) (by omega) ?_); conv => whnf) | ((with_reducible refine XHold.mk ?_ ?_); (first | omega | rfl | decide | exact ⟨rfl, by decide, rfl⟩ | exact wideI _ | exact widePr _ | exact wideSk _ | (unfold Room; constructor <;> ((try simp) <;> omega)) | exact ⟨rfl, by simp only [List.length_map], by unfold Room; constructor <;> ((try simp) <;> omega)⟩ | exact ⟨by omega, by omega, by unfold Room; constructor <;> ((try simp) <;> omega)⟩); conv => whnf) | ((first | (refine XCall.hp (j := 2) (upto_c v2 k vo (by omega) (by omega)) rfl rfl ?_) | (refine XCall.insert (p := (modV v2 k).toNat) rfl rfl (by decide) vl (by omega) (by omega) (by omega) ?_)); conv => whnf) | fail
      refine XAgainG.go (k + 1) [.grow 3 false [.int .i64 k]] (show k + 1 ≤ _ by omega) (by omega) ?_ ⟨rfl, rfl, rfl, rfl, rfl, trivial⟩
      rw [hnx]
      show _ ++ _ = _
      dsimp only
      rw [putAt_ne]
      rfl
    obtain rfl : k = l.sacks.length := by omega
    clear hnx hfin b1
    repeat' first | ((with_reducible apply XBr.dec) <;> (intro h; first | (exfalso; omega) | ((try simp only [List.length_map] at h); first | (exfalso; omega) | (conv => whnf)))) | fail
    have hye : ys.isEmpty = false := by
      cases ys with
      | nil => simp at vl; omega
      | cons y ys => rfl
    refine Walk.heapX [hpC u1, .cells (ldC l), hpC v2, .dead, .dead, .dead, .dead, .dead, .grow 3 false (ints ys)] (by rw [hye]) ?_
    refine Walk.asOs 38 8 l.sacks.length rfl rfl (by rw [ints_lenG]; exact vl) (by omega) ?_
    refine Walk.loopGK tab_ok [] [(7, _), (8, _), (9, _), (16, _), (266, _), (273, _)] ⟨rfl, rfl, rfl, rfl, rfl, rfl, trivial⟩ (fun p : Nat × Nat × List Int × List Int × Hp => p.1 ≤ c ∧ TryF l p.1 p.2.1 p.2.2.1 ∧ p.2.2.2.1.length = l.sacks.length ∧ (p.2.2.2.1.take p.2.2.1.length = p.2.2.1 ∧ p.2.2.1.length ≤ l.sacks.length) ∧ p.2.2.2.2.Ok) (fun p => [(37, natA (sumW (wts l) p.2.1)), (38, .os 8 l.sacks.length 0 p.2.2.1.length), (274, natA p.1)]) (fun p => [hpC u1, .cells (ldC l), hpC p.2.2.2.2, .dead, .dead, .dead, .dead, .dead, .grow 3 false (ints p.2.2.2.1)]) (fun p => c - p.1) (0, 0, ys, ys, v2) ⟨Nat.zero_le _, TryF.beg fun x hx => (hmem x).1 hx, vl, ⟨List.take_length, by dsimp only; omega⟩, vo⟩ rfl ⟨by rw [sumW_zero]; rfl, by dsimp only; rw [vl]; rfl, rfl, trivial⟩ ?_ (fun _ _ => Nat.le_refl _) ?_
    · rintro ⟨g, T, L, zs, v3⟩ _
      refine ⟨fun z hz => ?_, fun z hz => ?_⟩
      · simp only [List.mem_cons, List.not_mem_nil, or_false] at hz
        rcases hz with rfl | rfl | rfl | rfl | rfl | rfl | rfl | rfl | rfl <;> first | exact hpC_low _ | exact lowLd _ | exact lowI _ | rfl
      · simp only [List.cons_append, List.nil_append, List.mem_cons, List.not_mem_nil, or_false] at hz
        rcases hz with rfl | rfl | rfl | rfl | rfl | rfl | rfl | rfl | rfl <;> rfl
    clear hmem vl vo hye
    rintro ⟨g, T, L, zs, v3⟩ ⟨hg, hT, hzl, ⟨hzt, hLn⟩, vo⟩
    dsimp only at hg hT hzl hzt hLn vo ⊢
    conv => whnf
    have hTb := sumW_b o hT.lt
    have hTl := hle g T L hT hg
    by_cases hgc : g < c
    · skip
      repeat' first | ((with_reducible apply XBr.dec) <;> (intro h; first | (exfalso; omega) | ((try simp only [List.length_map] at h); first | (exfalso; omega) | (conv => whnf)))) | ((with_reducible refine XHold.mk ?_ ?_); (first | omega | rfl | decide | exact ⟨rfl, by decide, rfl⟩ | exact wideI _ | exact widePr _ | exact wideSk _ | (unfold Room; constructor <;> ((try simp) <;> omega)) | exact ⟨rfl, by simp only [List.length_map], by unfold Room; constructor <;> ((try simp) <;> omega)⟩ | exact ⟨by omega, by omega, by unfold Room; constructor <;> ((try simp) <;> omega)⟩); conv => whnf) | fail
      have hLz : ∀ k, k < L.length → zs.getD k default ∈ L := fun k hk => by
        have h1 : zs.getD k default = L.getD k default := by
          have h2 : L.getD k default = (zs.take L.length).getD k default := by rw [hzt]
          rw [h2, List.getD_eq_getElem?_getD, List.getD_eq_getElem?_getD, List.getElem?_take, if_pos hk]
        rw [h1]; exact getD_mem hk
      have hTB := hT.b
      have hzn : (ints zs).length = l.sacks.length := by rw [ints_lenG]; exact hzl
      refine Walk.heapX [hpC u1, .cells (ldC l), hpC v3, .dead, .dead, .dead, .dead, .dead, .grow 3 false (ints zs), .grow 4 false (bools (List.replicate l.sacks.length false)), .cells [.gr 9 l.sacks.length]] (by simp only [bools, List.map_replicate, List.length_map, Int.toNat_natCast]) ?_
      refine Walk.thenKeep ?_
      refine Walk.loopGK tab_ok [] [(7, _), (8, _), (9, _), (16, _), (37, _), (38, _), (266, _), (273, _), (274, _), (280, _), (281, _)] ⟨rfl, rfl, rfl, rfl, rfl, rfl, rfl, rfl, rfl, rfl, rfl, trivial⟩ (fun p : Nat × List Bool × Hp => p.1 ≤ L.length ∧ p.2.1.length = l.sacks.length ∧ (∀ i : Nat, p.2.1.getD i false = true → (i : Int) ∈ L) ∧ p.2.2.Ok) (fun p => [(39, .ptr 10 0), (282, natA p.1)]) (fun p => [hpC u1, .cells (ldC l), hpC p.2.2, .dead, .dead, .dead, .dead, .dead, .grow 3 false (ints zs), .grow 4 false (bools p.2.1), .cells [.gr 9 l.sacks.length]]) (fun p => L.length - p.1) (0, List.replicate l.sacks.length false, v3) ⟨Nat.zero_le _, List.length_replicate, fun i hi => ?_, vo⟩ rfl ⟨rfl, rfl, trivial⟩ ?_ (fun _ _ => Nat.le_refl _) ?_
      · exfalso
        dsimp only at hi
        rw [List.getD_eq_getElem?_getD, List.getElem?_replicate] at hi
        split at hi <;> cases hi
      · rintro ⟨k, bs, v4⟩ _
        refine ⟨fun z hz => ?_, fun z hz => ?_⟩
        · simp only [List.mem_cons, List.not_mem_nil, or_false] at hz
          rcases hz with rfl | rfl | rfl | rfl | rfl | rfl | rfl | rfl | rfl | rfl | rfl <;> first | exact hpC_low _ | exact lowLd _ | exact lowI _ | exact lowBo _ | rfl
        · simp only [List.cons_append, List.nil_append, List.mem_cons, List.not_mem_nil, or_false] at hz
          rcases hz with rfl | rfl | rfl | rfl | rfl | rfl | rfl | rfl | rfl | rfl | rfl | rfl | rfl <;> rfl
      clear vo
      rintro ⟨k, bs, v4⟩ ⟨hk, hbl, hbs, vo⟩
      dsimp only at hk hbl hbs vo ⊢
      conv => whnf
      have hbL : (bools bs).length = l.sacks.length := by rw [List.length_map]; exact hbl
      by_cases hkL : k < L.length
      · have hz := hLz k hkL
        have hzb := hTB _ hz
        have hon := once_c v4 2 vo (by omega) (by omega)
        generalize (modV v4 (2 - 1) == 0) = bb at hon
        repeat' first | ((with_reducible apply XBr.dec) <;> (intro h; first | (exfalso; omega) | ((try simp only [List.length_map] at h); first | (exfalso; omega) | (conv => whnf)))) | ((with_reducible refine XInt.i64 (by omega) (by omega) ?_); conv => whnf) | (with_reducible apply XAnd.mk) | ((first | (with_reducible apply Chk.go) | (with_reducible apply ChkA.go) | (with_reducible apply ChkF.go) | (with_reducible apply ChkB.go)); conv => whnf) | (exact XSame.mk rfl rfl) | (with_reducible exact trivial) | (apply Walk.drawN (id := 54) tab_ok mixed_ok [] [3, 5] (hsC [_, _, _]) [_, _, _, _, _, _] (by kernel_rfl) rfl) | ((first | (with_reducible apply XNext.mk) | (refine XHold.mk ⟨hzn, rfl, by omega, by omega⟩ ?_) | (refine getG_at k (by omega) (by omega) (by omega) ?_) | (refine XCall.hp (j := 2) hon rfl rfl ?_) | (refine XHold.mk ⟨hbL, rfl, by omega, by omega⟩ ?_) | (refine XPut.map bb rfl (by omega) (by omega) ?_)); conv => whnf) | fail
        refine XAgainG.go (k + 1, bs.set (zs.getD k default).toNat bb, hpS v4) [] ⟨by dsimp only; omega, by rw [List.length_set]; exact hbl, fun i hi => ?_, hpS_ok vo⟩ (by dsimp only; omega) rfl ⟨rfl, rfl, rfl, rfl, rfl, rfl, rfl, rfl, rfl, rfl, rfl, rfl, rfl, trivial⟩
        by_cases he : (zs.getD k default).toNat = i
        · have : (i : Int) = zs.getD k default := by omega
          rw [this]; exact hz
        · dsimp only at hi
          rw [List.getD_eq_getElem?_getD, List.getElem?_set_ne he, ← List.getD_eq_getElem?_getD] at hi
          exact hbs i hi
      obtain rfl : k = L.length := by omega
      clear hk hkL
      repeat' first | ((with_reducible apply XBr.dec) <;> (intro h; first | (exfalso; omega) | ((try simp only [List.length_map] at h); first | (exfalso; omega) | (conv => whnf)))) | fail
      refine XKeepE.go [hpC u1, .cells (ldC l), hpC v4, .dead, .dead, .dead, .dead, .dead, .grow 3 false (ints zs)] _ [(7, .ptr 1 0), (8, .ptr 2 0), (9, natA c), (16, natA S), (37, natA (sumW (wts l) T)), (38, .os 8 l.sacks.length 0 L.length), (39, .pim [.sl false (bools bs)]), (266, natA r), (273, natA c), (274, natA g)] rfl (fun z hz => ?_) ⟨⟨_, rfl, .same rfl⟩, ⟨_, rfl, .same rfl⟩, ⟨_, rfl, .same rfl⟩, ⟨_, rfl, .same rfl⟩, ⟨_, rfl, .same rfl⟩, ⟨_, rfl, .same rfl⟩, ⟨_, rfl, .inl (FrozN.ptrN (cs' := [.sl false (bools bs)]) (show 9 ≤ 10 by decide) rfl (by intro v hv; rw [List.mem_singleton] at hv; subst hv; rfl) (.cons (FrozN.grow (show 9 ≤ 9 by decide) rfl hbL (lowBo _)) .nil))⟩, ⟨_, rfl, .same rfl⟩, ⟨_, rfl, .same rfl⟩, ⟨_, rfl, .same rfl⟩, trivial⟩ ?_
      · simp only [List.mem_cons, List.not_mem_nil, or_false] at hz
        rcases hz with rfl | rfl | rfl | rfl | rfl | rfl | rfl | rfl | rfl <;> first | exact hpC_low _ | exact lowLd _ | exact lowI _ | rfl
      refine blockX_then ?_
      have hlr := lawRight_c l o false bs hbl
      have hle2 := lawRight_eq o hbl
      have hTgo := fun h => hT.go o hbl hbs h
      have hsw := set_wsum o hbl
      have hwn := wsumK_next l bs
      have hwb := wsumK_bound o bs
      conv => whnf
      cases hrb : lawRightB l bs with
      | false =>
        rw [hrb] at hlr
        repeat' first | ((first | (with_reducible apply XBr.ff) | (with_reducible refine XInt.i64 (by omega) (by omega) ?_) | (refine XCall.ret hlr ?_)); conv => whnf) | fail
        exact XAgainG.go (g + 1, T, L, zs, v4) [.dead, .dead] ⟨by dsimp only; omega, hT.no, hzl, ⟨hzt, hLn⟩, vo⟩ (by dsimp only; omega) rfl ⟨rfl, rfl, rfl, rfl, rfl, rfl, rfl, rfl, rfl, trivial⟩
      | true =>
        rw [hrb] at hlr hle2
        obtain ⟨hT2, hsum⟩ := hTgo hle2.symm
        have hdel : ∀ x ∈ zs.take L.length, Comp Try.prog 31 [.int .i64 x, .pim [.sl false (bools bs)]] (.bool (bs.getD x.toNat default)) := fun x hx => by
          rw [hzt] at hx
          have := hTB x hx
          exact sf1_c false bs x this.1 (by omega)
        repeat' first | ((first | (with_reducible apply XBr.tt) | (refine XCall.ret hlr ?_)); conv => whnf) | fail
        refine XCall.delOs (p := fun x : Int => bs.getD x.toNat default) (by simp only [lowL, AV.low, lowBo]; rfl) hzl hLn (by omega) hdel rfl fun zs' hz1 hz2 => ?_
        rw [hzt] at hz2 ⊢
        have hkl := kpL_len (fun x : Int => bs.getD x.toNat default) L
        generalize kpL (fun x : Int => bs.getD x.toNat default) L = L2 at hT2 hz2 hkl
        conv => whnf
        skip
        have hbI : ((bools bs).length : Int) = l.sacks.length := by rw [hbL]
        have hend : ((sumW (wts l) T : Nat) : Int) + wsum l (lsK bs l.sacks.length) = ((sumW (wts l) (T ||| setN bs) : Nat) : Int) := by rw [hsw, hsum]; omega
        refine Walk.loopK tab_ok [] [(7, _), (8, _), (9, _), (16, _), (38, _), (266, _), (273, _), (274, _), (298, _), (299, _)] ⟨rfl, rfl, rfl, rfl, rfl, rfl, rfl, rfl, rfl, rfl, trivial⟩ (fun k : Nat => k ≤ l.sacks.length) (fun k => [(37, .int .i64 (((sumW (wts l) T : Nat) : Int) + wsum l (lsK bs k))), (300, natA k)]) (fun _ => [hpC u1, .cells (ldC l), hpC v4, .dead, .dead, .dead, .dead, .dead, .grow 3 false (ints zs'), .dead, .dead]) (fun k => l.sacks.length - k) 0 (Nat.zero_le _) rfl ⟨by rw [show wsum l (lsK bs 0) = 0 from rfl, Int.add_zero]; rfl, rfl, trivial⟩ ?_
        intro k hk
        have hwn := hwn k
        have hwb := hwb k hk
        conv => whnf
        by_cases hkn : k < l.sacks.length
        · have hwn := hwn hkn
          have hlw := lawWeight_c l o k hkn
          have hwr := wr_b o hkn
          repeat' first | ((with_reducible apply XBr.dec) <;> (intro h; first | (exfalso; omega) | ((try simp only [List.length_map] at h); first | (exfalso; omega) | (conv => whnf)))) | ((first | (with_reducible refine XInt.i64 (by omega) (by omega) ?_) | ((with_reducible refine XIx.nat ?_ ?_ ?_); omega; (intro _; rfl)) | (refine XCall.ret hlw ?_)); conv => whnf) | ((with_reducible apply XBr.mk') <;> (intro h; conv => whnf)) | fail
          · refine XAgain.go (k + 1) (by omega) (by omega) rfl ⟨rfl, rfl, rfl, rfl, rfl, rfl, rfl, rfl, rfl, rfl, ?_, rfl, trivial⟩
            rw [if_pos (show bs.getD k false = true from h)] at hwn
            rw [hwn, ← Int.add_assoc]; rfl
          · refine XAgain.go (k + 1) (by omega) (by omega) rfl ⟨rfl, rfl, rfl, rfl, rfl, rfl, rfl, rfl, rfl, rfl, ?_, rfl, trivial⟩
            rw [if_neg (by rw [show bs.getD k false = false from h]; simp)] at hwn
            rw [hwn]; rfl
        obtain rfl : k = l.sacks.length := by omega
        rw [hend]
        repeat' first | ((with_reducible apply XBr.dec) <;> (intro h; first | (exfalso; omega) | ((try simp only [List.length_map] at h); first | (exfalso; omega) | (conv => whnf)))) | ((with_reducible refine XInt.i64 (by omega) (by omega) ?_); conv => whnf) | fail
        exact XAgainG.go (g + 1, T ||| setN bs, L2, zs', v4) [.dead, .dead] ⟨by dsimp only; omega, hT2, hz1, ⟨hz2, by dsimp only; omega⟩, vo⟩ (by dsimp only; omega) rfl ⟨rfl, rfl, rfl, rfl, rfl, rfl, rfl, rfl, rfl, trivial⟩
    obtain rfl : g = c := by omega
    repeat' first | ((with_reducible apply XBr.dec) <;> (intro h; first | (exfalso; omega) | ((try simp only [List.length_map] at h); first | (exfalso; omega) | (conv => whnf)))) | ((with_reducible refine XInt.i64 (by omega) (by omega) ?_); conv => whnf) | fail
    all_goals first
      | exact XAgainG.go (r + 1, v3) [.grow 3 false (ints zs)] ⟨by dsimp only; omega, vo⟩ (by dsimp only; omega) rfl ⟨rfl, rfl, rfl, rfl, rfl, trivial⟩
      | (exfalso; omega)
  · obtain rfl : r = 5 := by omega
    repeat' first | ((with_reducible apply XBr.dec) <;> (intro h; first | (exfalso; omega) | ((try simp only [List.length_map] at h); first | (exfalso; omega) | (conv => whnf)))) | fail
    refine XKeepE.go [] _ [(7, .pim (ldC l)), (9, natA c)] rfl (fun x hx => by cases hx) ⟨⟨_, rfl, .all (Froz.ptr rfl (by intro v hv; simp only [ldC, List.mem_cons, List.not_mem_nil, or_false] at hv; rcases hv with rfl | rfl | rfl | rfl | rfl <;> rfl) (.low (show lowL 0 (ldC l) = true from lowLd l)))⟩, ⟨_, rfl, .same rfl⟩, trivial⟩ ?_
    refine blockX_then ?_
    exact fewEnd l o w c hc
theorem sackFew_c (n1 n2 : Bool) (xs ys : List Int) (p : Int) (hx : xs.length < 9223372036854775808) (hy : ys.length < 9223372036854775808) (hp : 0 ≤ p ∧ p ≤ 255) :
    Comp Try.prog 6 [.sl n1 (bytes xs), .sl n2 (bytes ys), .int .u8 p] (.bool true) := sackFew_of fewTry n1 n2 xs ys p hx hy hp
end GA
end
