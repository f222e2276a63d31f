/- Part 8 of a proof: D70, D71, D65, B8, D42, D43, D72, D62, D63, D15. -/
import Derived.Test.YtdnakedcckkoaaaGreatP7
set_option linter.unusedVariables false
set_option linter.unusedSimpArgs false
set_option maxRecDepth 8000
section
namespace GA
open Go Go.RowKit Go.Proofs
theorem crL_next' (b : Bd) (k : Nat) : crL b (k + 1) = crL b k ++ [(cr b k : Int)] := by unfold crL; rw [kr]
theorem wX (b : Bd) (k : Nat) : (crL b k).length = k := zj _ _
theorem crL_get' (b : Bd) {k i : Nat} (h : i < k) : (crL b k).getD i default = (cr b i : Int) := yq _ h
theorem XGet.intK {xs : List Int} {n e : Nat} {k : List AV -> Prop} (j : Nat) (y : Nat) (he : e = j) (h1 : n = xs.length) (h2 : j < xs.length) (hy : xs.getD j default = (y : Int)) (h : k [natA y]) : XGet (ints xs) n e k := by
 subst he
 refine XGet.mapF (f := AV.int .i64) default h1 (by omega) ?_
 rw [hy]; exact h
def outT (o : Option (List Int)) : AV := match o with | none => .sl true [] | some l => .gr 2 l.length
def outH (o : Option (List Int)) : List Blk := match o with | none => [.dead, .dead] | some l => [.dead, .dead, .grow 3 false (ints l)]
theorem outO_step {x : Bd} {m k : Nat} (h : k < (x.room + 1).toNat) : outO x m k = if okC x m k = true then some (crL x m ++ [(k : Int)]) else outO x m (k + 1) := by
 unfold outO
 rw [q7 h]
 cases okC x m k <;> rfl
theorem zdo (x : Bd) (m : Nat) : outO x m (x.room + 1).toNat = if m = 0 then none else some (crL x m) := by unfold outO; rw [lstG_end]
theorem outO_yes {x : Bd} (ok : BedOk x) (h : zH x alwP = false) {m : Nat} (hm : m <= x.months.length) : outO x m 0 = outO x (m + 1) (x.room + 1).toNat := by
 rw [zdo, if_neg (by omega)]
 unfold outO
 rw [okC_cr ok h hm, crL_next']
theorem outO_no {x : Bd} (ok : BedOk x) (h : zH x alwP = true) : outO x 0 0 = none := by
 unfold outO
 rw [okC_no ok h]; rfl
theorem zdI (x : Bd) (m k : Nat) : (m = 0 /\ outO x m k = none) \/ (0 < m /\ outO x m k = some (crL x m)) \/ ∃ y : Int, outO x m k = some (crL x m ++ [y]) := by
 unfold outO
 cases lstG (okC x m) k (x.room + 1).toNat with
 | some n => exact .inr (.inr ⟨_, rfl⟩)
 | none =>
   by_cases h : m = 0
   ·exact .inl ⟨h, if_pos h⟩
   ·exact .inr (.inl ⟨by omega, if_neg h⟩)
theorem rowPut {l c : List Int} {i n k : Nat} (h : l.take i = c) (hn : n = i) : (ints l).take n ++ [natA k] = ints (c ++ [(k : Int)]) := by
 subst hn
 unfold ints
 rw [List.map_append, <- h, List.map_take]; rfl
theorem rowApp {c : List Int} {k : Nat} : ints c ++ [natA k] = ints (c ++ [(k : Int)]) := by
 unfold ints
 rw [List.map_append]; rfl
set_option maxHeartbeats 2000000 in
theorem zcQ (b : Bd) (hm : b.months.length <= 100000) (hs : b.surveys.length <= 100000) (month amount : Int) : Comp Tryz.prog 124 [bedA b, .int .i64 month, .int .i64 amount] (k0 b month amount) := by
 have hck := yd b hm hs
 have e1 : ((b.months.map moA).length : Int) = b.months.length := by rw [List.length_map]
 have ho1 := zZ month 0 ((b.months.map moA).length : Int)
 rw [show inZ month 0 ((b.months.map moA).length : Int) = inZ month 0 b.months.length by rw [e1]] at ho1
 have ho2 := zZ amount 0 b.room
 unfold k0
 by_cases hE : bedE b = 0
 ·have okb := (zz b).1 hE
  have ok := okb.toBedOk
  have s1 := okb.s1
  have m1 := ok.m1
  have m2 := ok.m2
  have r1 := ok.r1
  have r2 := ok.r2
  rw [hE] at hck
  rw [if_neg (fun h => h hE)]
  cases hz1 : inZ month 0 b.months.length with
  | false =>
    rw [hz1] at ho1
    rw [if_pos rfl]
    refine Comp.body (T := tab) (res := [.tmp 6, .tmp 7]) zb [9, 30] Tryz.func124 rfl (by kernel_rfl) Tryz.ntmps124 rfl (by simp only [List.length_cons, List.length_nil]; decide) (by simp only [lowL, bedL, AV.low]; rfl) ?_; conv => whnf
    repeat' first | ((with_reducible first | apply XBr.ff | refine XBr.y2 fun h => ?_ | refine XBr.n2 fun h => ?_ | refine XBr.bne (fun h => ?_) fun h => ?_) <;> conv => whnf) | with_reducible apply XBr.not | ((first | refine za.ret hck ?_ | refine za.ret ho1 ?_); conv => whnf) | fail
    exact ⟨.low rfl⟩
  | true =>
    cases hz2 : inZ amount 0 b.room with
    | false =>
      rw [hz1] at ho1
      rw [hz2] at ho2
      rw [if_neg (by simp), if_pos rfl]
      refine Comp.body (T := tab) (res := [.tmp 6, .tmp 7]) zb [9, 30] Tryz.func124 rfl (by kernel_rfl) Tryz.ntmps124 rfl (by simp only [List.length_cons, List.length_nil]; decide) (by simp only [lowL, bedL, AV.low]; rfl) ?_; conv => whnf
      repeat' first | ((with_reducible first | apply XBr.tt | apply XBr.ff | refine XBr.y2 fun h => ?_ | refine XBr.n2 fun h => ?_ | refine XBr.bne (fun h => ?_) fun h => ?_) <;> conv => whnf) | with_reducible apply XBr.not | ((first | refine za.ret hck ?_ | refine za.ret ho1 ?_ | refine za.ret ho2 ?_); conv => whnf) | fail
      exact ⟨.low rfl⟩
    | true =>
      rw [hz1] at ho1
      rw [hz2] at ho2
      rw [if_neg (by simp), if_neg (by simp)]
      obtain ⟨m, hmo⟩ : ∃ m : Nat, month = m := ⟨month.toNat, by simp [inZ] at hz1; omega⟩
      obtain ⟨n, hna⟩ : ∃ n : Nat, amount = n := ⟨amount.toNat, by simp [inZ] at hz2; omega⟩
      subst hmo hna
      have hmb : m <= b.months.length := by simp [inZ] at hz1; omega
      have hnb : (n : Int) <= b.room := by simp [inZ] at hz2; omega
      simp only [Int.toNat_natCast]
      have okx := zbY ok m n
      have hsl : (addS b m n).surveys.length = b.surveys.length + 1 := by unfold addS; simp
      have hc1 := wY (addS b m n) true (by omega)
      have hp1 := wz (addS b m n) okx (by omega) false alwP
      change Comp Tryz.prog _ [_, nextA b, _] (.sl false (vecF (b.months.length + 1) fun i => .sl false (bls (b.room + 1).toNat (psF (addS b m n) alwP i)))) at hp1
      have elen : ((vecF (b.months.length + 1) fun i => AV.sl false (bls (b.room + 1).toNat (psF (addS b m n) alwP i))).length : Int) = b.months.length + 1 := by rw [zj]; omega
      have hnx := zcp b ok
      have hW : (((b.room + 1).toNat : Nat) : Int) = b.room + 1 := by omega
      have hend := zdo (addS b m n)
      change ∀ i, outO (addS b m n) i (b.room + 1).toNat = _ at hend
      have hstep := fun i k h => outO_step (x := addS b m n) (m := i) (k := k) h
      change ∀ i k, k < (b.room + 1).toNat -> _ at hstep
      have hyes := fun h i hi => outO_yes okx h (m := i) hi
      change _ -> ∀ i, i <= b.months.length -> outO _ _ _ = outO _ _ (b.room + 1).toNat at hyes
      have hno := outO_no okx
      have hcs := zdI (addS b m n)
      have hok : ∀ i k, okC (addS b m n) i k = (psF (addS b m n) alwP i k && (i == 0 || nxF b (i - 1) (cr (addS b m n) (i - 1)) k)) := fun _ _ => rfl
      refine Comp.body (T := tab) (res := [.tmp 6, .tmp 7]) zb [9, 30] Tryz.func124 rfl (by kernel_rfl) Tryz.ntmps124 rfl (by simp only [List.length_cons, List.length_nil]; decide) (by simp only [lowL, bedL, AV.low]; rfl) ?_; conv => whnf
      repeat' first | ((with_reducible first | apply XBr.tt | refine XBr.y2 fun h => ?_ | refine XBr.n2 fun h => ?_ | refine XBr.bne (fun h => ?_) fun h => ?_) <;> conv => whnf) | with_reducible apply XBr.not | ((first | refine zh.a ?_ | refine za.ret hck ?_ | refine za.ret ho1 ?_ | refine za.ret ho2 ?_ | refine za.ret hnx ?_ | refine zh.mk (wideSu _) ?_); conv => whnf) | fail
      refine Walk.keep zb [] [] _ [(3, .pim (bedC b)), (9, .pim (bedC (addS b m n))), (10, nextA b)] rfl (fun x hx => by cases hx) ⟨⟨_, rfl, .same (zY b)⟩, ⟨_, rfl, .all (Froz.ptr rfl (bedOne _) ?_)⟩, ⟨_, rfl, .same (gi b)⟩, trivial⟩ rfl ?_
      ·refine .cons (.low rfl) (.cons (.low rfl) (.cons (.low rfl) (.cons (.low (yn _)) (.cons ?_ .nil))))
       have hEq : ([] ++ List.map suA b.surveys ++ [suA ⟨m, n, n⟩]) = (addS b m n).surveys.map suA := by
        show _ = (b.surveys ++ [_]).map suA
        rw [List.map_append]; rfl
       have hlo : lowL 0 ([] ++ List.map suA b.surveys ++ [suA ⟨m, n, n⟩]) = true := by rw [hEq]; exact yO _
       show Froz _ _ _ (.sl false ((addS b m n).surveys.map suA))
       rw [<- hEq]
       exact Froz.grow rfl (by rw [List.length_append, List.length_append]; rfl) hlo
      conv => whnf
      repeat' first | ((with_reducible first | apply Chk.go | apply ChkA.go | apply ChkF.go | apply ChkB.go | apply zw.mk); conv => whnf) | (with_reducible first | apply XAnd.mk | exact trivial) | (exact zd.mk rfl rfl) | (apply Walk.drawN (id := 11) zb zg [9, 30] [] (hsU _) [_, _, _, _, _, _] (by kernel_rfl) rfl) | ((first | refine za.ret hc1 ?_ | refine za.ret hp1 ?_); conv => whnf) | fail
      refine Walk.loopK zb [] [(3, _), (10, _), (11, _)] ⟨rfl, rfl, rfl, trivial⟩ (fun i : Nat => i <= b.months.length + 1 /\ (zH (addS b m n) alwP = true -> i = 0)) (fun i => [(12, outT (outO (addS b m n) i (b.room + 1).toNat)), (13, natA i)]) (fun i => outH (outO (addS b m n) i (b.room + 1).toNat)) (fun i => b.months.length + 1 - i) 0 ⟨Nat.zero_le _, fun _ => rfl⟩ (by rw [hend, if_pos rfl] <;> rfl) ⟨by rw [hend, if_pos rfl] <;> rfl, rfl, trivial⟩ ?_
      rintro i ⟨hi, hz⟩
      conv => whnf
      by_cases hlt : i < b.months.length + 1
      ·skip
       repeat' ((with_reducible first | refine XBr.y fun h => ?_ | refine XBr.n fun h => ?_ | refine XBr.dec (fun h => ?_) fun h => ?_) <;> conv => whnf)
       refine Walk.loopK zb [] [(3, _), (10, _), (11, _), (13, _)] ⟨rfl, rfl, rfl, rfl, trivial⟩ (fun k : Nat => k <= (b.room + 1).toNat) (fun k => [(12, outT (outO (addS b m n) i k)), (14, .int .i64 ((k : Int) - 1))]) (fun k => outH (outO (addS b m n) i k)) (fun k => k) (b.room + 1).toNat (Nat.le_refl _) rfl ⟨rfl, congrArg (fun z => some (AV.int .i64 z)) (show b.room = (((b.room + 1).toNat : Nat) : Int) - 1 by omega), trivial⟩ ?_
       intro k hk
       cases k with
       | succ k =>
         rw [show (((k + 1 : Nat) : Int) - 1) = (k : Int) by omega]
         have hst := hstep i k (by omega)
         rw [hok] at hst
         cases hps : psF (addS b m n) alwP i k with
         | false =>
           rw [hps, Bool.false_and, if_neg (by simp)] at hst
           rcases hcs i (k + 1) with ⟨h0, ho⟩ | ⟨h0, ho⟩ | ⟨y, ho⟩
           all_goals
            have hs := hst.trans ho
            rw [ho]
            conv => whnf
            repeat' first | ((with_reducible first | apply XBr.ff | refine XBr.y fun h => ?_ | refine XBr.n fun h => ?_ | refine XBr.dec (fun h => ?_) fun h => ?_ | refine XInt.a ?_ | apply Chk.go | apply ChkA.go | apply ChkF.go | apply ChkB.go | apply zw.mk) <;> conv => whnf) | (with_reducible first | apply XAnd.mk | exact trivial) | (exact zd.mk rfl rfl) | (apply Walk.drawN (id := 19) zb zg [9, 30] [] (hsU _) [_, _, _, _, _, _, _, _, _, _, _, _, _, _, _, _, _, _, _, _, _, _, _, _, _, _, _, _] (by kernel_rfl) rfl) | ((first | (refine XIx.vecV i (by with_reducible rfl) (by omega) rfl ?_) | ((refine XIx.bls k (by with_reducible rfl) (by omega) ?_); rw [hps])); conv => whnf) | fail
            exact zk.go k (by omega) (by omega) (by rw [hs] <;> rfl) ⟨rfl, rfl, rfl, rfl, by rw [hs] <;> rfl, rfl, trivial⟩
         | true =>
           rw [hps, Bool.true_and] at hst
           by_cases hi0 : i = 0
           ·rw [if_pos (by rw [hi0]; rfl)] at hst
            have hs := hst
            rcases hcs i (k + 1) with ⟨h0, ho⟩ | ⟨h0, ho⟩ | ⟨y, ho⟩
            ·rw [ho]
             conv => whnf
             repeat' first | ((with_reducible first | apply XBr.tt | refine XBr.y fun h => ?_ | refine XBr.n fun h => ?_ | refine XBr.dec (fun h => ?_) fun h => ?_ | refine XBr.y1 fun h => ?_ | refine XBr.n1 fun h => ?_ | refine XBr.beq (fun h => ?_) fun h => ?_ | refine XInt.a ?_ | apply Chk.go | apply ChkA.go | apply ChkF.go | apply ChkB.go | apply zw.mk) <;> conv => whnf) | (refine zh.a ?_; conv => whnf) | (with_reducible first | apply XAnd.mk | exact trivial) | (exact zd.mk rfl rfl) | (apply Walk.drawN (id := 19) zb zg [9, 30] [] (hsU _) [_, _, _, _, _, _, _, _, _, _, _, _, _, _, _, _, _, _, _, _, _, _, _, _, _, _, _, _] (by kernel_rfl) rfl) | ((first | (refine XIx.vecV i (by with_reducible rfl) (by omega) rfl ?_) | ((refine XIx.bls k (by with_reducible rfl) (by omega) ?_); rw [hps])); conv => whnf) | fail
             have hc0 : crL (addS b m n) i = [] := List.length_eq_zero_iff.1 (by rw [wX]; exact hi0)
             rw [hc0] at hs
             exact zk.go k (by omega) (by omega) (by rw [hs] <;> rfl) ⟨rfl, rfl, rfl, rfl, by rw [hs] <;> rfl, rfl, trivial⟩
            ·omega
            ·have hll : (crL (addS b m n) i).length = i := wX _ _
             have hl1 : (crL (addS b m n) i ++ [y]).length = i + 1 := by rw [List.length_append, hll]; rfl
             have hl2 : (crL (addS b m n) i ++ [y]).take i = crL (addS b m n) i := by rw [List.take_append_of_le_length (by omega), List.take_of_length_le (by omega)]
             rw [ho]
             generalize crL (addS b m n) i ++ [y] = l at hl1 hl2
             have hil : (ints l).length = l.length := zm _
             conv => whnf
             repeat' first | ((with_reducible first | apply XBr.tt | refine XBr.y fun h => ?_ | refine XBr.n fun h => ?_ | refine XBr.dec (fun h => ?_) fun h => ?_ | refine XBr.y1 fun h => ?_ | refine XBr.n1 fun h => ?_ | refine XBr.beq (fun h => ?_) fun h => ?_ | refine XInt.a ?_ | apply Chk.go | apply ChkA.go | apply ChkF.go | apply ChkB.go | apply zw.mk) <;> conv => whnf) | (refine zh.a ?_; conv => whnf) | (with_reducible first | apply XAnd.mk | exact trivial) | (exact zd.mk rfl rfl) | (apply Walk.drawN (id := 19) zb zg [9, 30] [] (hsU _) [_, _, _, _, _, _, _, _, _, _, _, _, _, _, _, _, _, _, _, _, _, _, _, _, _, _, _, _] (by kernel_rfl) rfl) | ((first | (refine XIx.vecV i (by with_reducible rfl) (by omega) rfl ?_) | ((refine XIx.bls k (by with_reducible rfl) (by omega) ?_); rw [hps]) | (first | refine zh.mk ⟨⟨by omega, by omega, by omega, by omega⟩, hil, rfl⟩ ?_ | refine wZ.within ?_ | (refine zh.mk ⟨rfl, rfl, by omega, by (simp only [List.length_cons, List.length_nil]; omega)⟩ ?_))); conv => whnf) | fail
             exact zk.go k (by omega) (by omega) (by rw [hs]; exact congrArg (fun z => [Blk.dead, .dead, .grow _ false z]) (rowPut hl2 (by omega)).symm) ⟨rfl, rfl, rfl, rfl, by rw [hs]; exact congrArg (fun z => some (AV.gr 2 z)) (by rw [List.length_append, hll, hl1] <;> rfl), rfl, trivial⟩
           ·have hnf : zH (addS b m n) alwP = false := by
             cases h : zH (addS b m n) alwP with
             | false => rfl
             | true => exact absurd (hz h) hi0
            have hcr : ((cr (addS b m n) (i - 1) : Nat) : Int) <= b.room := by
             have h := yr (v6 okx hnf (i - 1) (by show i - 1 <= b.months.length; omega))
             exact h
            rw [show (i == 0) = false by simp [hi0], Bool.false_or] at hst
            obtain ⟨q, hnx2⟩ : ∃ q, nxF b (i - 1) (cr (addS b m n) (i - 1)) k = q := ⟨_, rfl⟩
            rw [hnx2] at hst
            have hll : (crL (addS b m n) i).length = i := wX _ _
            have hlg := crL_get' (addS b m n) (k := i) (i := i - 1) (by omega)
            cases q with
            | false =>
              rw [if_neg (by simp)] at hst
              rcases hcs i (k + 1) with ⟨h0, ho⟩ | ⟨h0, ho⟩ | ⟨y, ho⟩
              ·omega
              ·have hs := hst.trans ho
               rw [ho]
               have hil : (ints (crL (addS b m n) i)).length = (crL (addS b m n) i).length := zm _
               conv => whnf
               repeat' first | ((with_reducible first | apply XBr.tt | apply XBr.ff | refine XBr.y fun h => ?_ | refine XBr.n fun h => ?_ | refine XBr.dec (fun h => ?_) fun h => ?_ | refine XBr.y1 fun h => ?_ | refine XBr.n1 fun h => ?_ | refine XBr.beq (fun h => ?_) fun h => ?_ | refine XInt.a ?_ | apply Chk.go | apply ChkA.go | apply ChkF.go | apply ChkB.go | apply zw.mk) <;> conv => whnf) | (with_reducible first | apply XAnd.mk | exact trivial) | (exact zd.mk rfl rfl) | (apply Walk.drawN (id := 19) zb zg [9, 30] [] (hsU _) [_, _, _, _, _, _, _, _, _, _, _, _, _, _, _, _, _, _, _, _, _, _, _, _, _, _, _, _] (by kernel_rfl) rfl) | ((first | (refine XIx.vecV i (by with_reducible rfl) (by omega) rfl ?_) | ((refine XIx.bls k (by with_reducible rfl) (by omega) ?_); rw [hps]) | (first | refine XIx.vecV (i - 1) (by omega) (by omega) rfl ?_ | refine zh.mk ⟨hil, rfl, by omega, by omega⟩ ?_ | refine XGet.intK (i - 1) (cr (addS b m n) (i - 1)) (by omega) rfl (by omega) hlg ?_ | refine XIx.vecV (cr (addS b m n) (i - 1)) (by with_reducible rfl) (by omega) rfl ?_) | ((refine XIx.bls k (by with_reducible rfl) (by omega) ?_); rw [hnx2])); conv => whnf) | fail
               exact zk.go k (by omega) (by omega) (by rw [hs] <;> rfl) ⟨rfl, rfl, rfl, rfl, by rw [hs] <;> rfl, rfl, trivial⟩
              ·have hs := hst.trans ho
               rw [ho]
               have hl1 : (crL (addS b m n) i ++ [y]).length = i + 1 := by rw [List.length_append, hll]; rfl
               have hlg : (crL (addS b m n) i ++ [y]).getD (i - 1) default = (cr (addS b m n) (i - 1) : Int) := by rw [zcJ rfl, if_pos (by omega)]; exact hlg
               have hil : (ints (crL (addS b m n) i ++ [y])).length = (crL (addS b m n) i ++ [y]).length := zm _
               conv => whnf
               repeat' first | ((with_reducible first | apply XBr.tt | apply XBr.ff | refine XBr.y fun h => ?_ | refine XBr.n fun h => ?_ | refine XBr.dec (fun h => ?_) fun h => ?_ | refine XBr.y1 fun h => ?_ | refine XBr.n1 fun h => ?_ | refine XBr.beq (fun h => ?_) fun h => ?_ | refine XInt.a ?_ | apply Chk.go | apply ChkA.go | apply ChkF.go | apply ChkB.go | apply zw.mk) <;> conv => whnf) | (with_reducible first | apply XAnd.mk | exact trivial) | (exact zd.mk rfl rfl) | (apply Walk.drawN (id := 19) zb zg [9, 30] [] (hsU _) [_, _, _, _, _, _, _, _, _, _, _, _, _, _, _, _, _, _, _, _, _, _, _, _, _, _, _, _] (by kernel_rfl) rfl) | ((first | (refine XIx.vecV i (by with_reducible rfl) (by omega) rfl ?_) | ((refine XIx.bls k (by with_reducible rfl) (by omega) ?_); rw [hps]) | (first | refine XIx.vecV (i - 1) (by omega) (by omega) rfl ?_ | refine zh.mk ⟨hil, rfl, by omega, by omega⟩ ?_ | refine XGet.intK (i - 1) (cr (addS b m n) (i - 1)) (by omega) rfl (by omega) hlg ?_ | refine XIx.vecV (cr (addS b m n) (i - 1)) (by with_reducible rfl) (by omega) rfl ?_) | ((refine XIx.bls k (by with_reducible rfl) (by omega) ?_); rw [hnx2])); conv => whnf) | fail
               exact zk.go k (by omega) (by omega) (by rw [hs] <;> rfl) ⟨rfl, rfl, rfl, rfl, by rw [hs] <;> rfl, rfl, trivial⟩
            | true =>
              rw [if_pos rfl] at hst
              have hs := hst
              rcases hcs i (k + 1) with ⟨h0, ho⟩ | ⟨h0, ho⟩ | ⟨y, ho⟩
              ·omega
              ·rw [ho]
               have hil : (ints (crL (addS b m n) i)).length = (crL (addS b m n) i).length := zm _
               conv => whnf
               repeat' first | ((with_reducible first | apply XBr.tt | refine XBr.y fun h => ?_ | refine XBr.n fun h => ?_ | refine XBr.dec (fun h => ?_) fun h => ?_ | refine XBr.y1 fun h => ?_ | refine XBr.n1 fun h => ?_ | refine XBr.beq (fun h => ?_) fun h => ?_ | refine XInt.a ?_ | apply Chk.go | apply ChkA.go | apply ChkF.go | apply ChkB.go | apply zw.mk) <;> conv => whnf) | (refine zh.a ?_; conv => whnf) | (with_reducible first | apply XAnd.mk | exact trivial) | (exact zd.mk rfl rfl) | (apply Walk.drawN (id := 19) zb zg [9, 30] [] (hsU _) [_, _, _, _, _, _, _, _, _, _, _, _, _, _, _, _, _, _, _, _, _, _, _, _, _, _, _, _] (by kernel_rfl) rfl) | ((first | (refine XIx.vecV i (by with_reducible rfl) (by omega) rfl ?_) | ((refine XIx.bls k (by with_reducible rfl) (by omega) ?_); rw [hps]) | (first | refine XIx.vecV (i - 1) (by omega) (by omega) rfl ?_ | refine zh.mk ⟨hil, rfl, by omega, by omega⟩ ?_ | refine XGet.intK (i - 1) (cr (addS b m n) (i - 1)) (by omega) rfl (by omega) hlg ?_ | refine XIx.vecV (cr (addS b m n) (i - 1)) (by with_reducible rfl) (by omega) rfl ?_) | ((refine XIx.bls k (by with_reducible rfl) (by omega) ?_); rw [hnx2]) | (first | refine zh.mk ⟨⟨by omega, by omega, by omega, by omega⟩, hil, rfl⟩ ?_ | refine wZ.full (by omega) ?_)); conv => whnf) | fail
               exact zk.go k (by omega) (by omega) (by rw [hs]; exact congrArg (fun z => [Blk.dead, .dead, .grow _ false z]) rowApp.symm) ⟨rfl, rfl, rfl, rfl, by rw [hs]; exact congrArg (fun z => some (AV.gr 2 z)) (by rw [List.length_append] <;> rfl), rfl, trivial⟩
              ·have hl1 : (crL (addS b m n) i ++ [y]).length = i + 1 := by rw [List.length_append, hll]; rfl
               have hlg : (crL (addS b m n) i ++ [y]).getD (i - 1) default = (cr (addS b m n) (i - 1) : Int) := by rw [zcJ rfl, if_pos (by omega)]; exact hlg
               have hl2 : (crL (addS b m n) i ++ [y]).take i = crL (addS b m n) i := by rw [List.take_append_of_le_length (by omega), List.take_of_length_le (by omega)]
               rw [ho]
               generalize crL (addS b m n) i ++ [y] = l at hl1 hl2 hlg
               have hil : (ints l).length = l.length := zm _
               conv => whnf
               repeat' first | ((with_reducible first | apply XBr.tt | refine XBr.y fun h => ?_ | refine XBr.n fun h => ?_ | refine XBr.dec (fun h => ?_) fun h => ?_ | refine XBr.y1 fun h => ?_ | refine XBr.n1 fun h => ?_ | refine XBr.beq (fun h => ?_) fun h => ?_ | refine XInt.a ?_ | apply Chk.go | apply ChkA.go | apply ChkF.go | apply ChkB.go | apply zw.mk) <;> conv => whnf) | (refine zh.a ?_; conv => whnf) | (with_reducible first | apply XAnd.mk | exact trivial) | (exact zd.mk rfl rfl) | (apply Walk.drawN (id := 19) zb zg [9, 30] [] (hsU _) [_, _, _, _, _, _, _, _, _, _, _, _, _, _, _, _, _, _, _, _, _, _, _, _, _, _, _, _] (by kernel_rfl) rfl) | ((first | (refine XIx.vecV i (by with_reducible rfl) (by omega) rfl ?_) | ((refine XIx.bls k (by with_reducible rfl) (by omega) ?_); rw [hps]) | (first | refine XIx.vecV (i - 1) (by omega) (by omega) rfl ?_ | refine zh.mk ⟨hil, rfl, by omega, by omega⟩ ?_ | refine XGet.intK (i - 1) (cr (addS b m n) (i - 1)) (by omega) rfl (by omega) hlg ?_ | refine XIx.vecV (cr (addS b m n) (i - 1)) (by with_reducible rfl) (by omega) rfl ?_) | ((refine XIx.bls k (by with_reducible rfl) (by omega) ?_); rw [hnx2]) | (first | refine zh.mk ⟨⟨by omega, by omega, by omega, by omega⟩, hil, rfl⟩ ?_ | refine wZ.within ?_ | (refine zh.mk ⟨rfl, rfl, by omega, by (simp only [List.length_cons, List.length_nil]; omega)⟩ ?_))); conv => whnf) | fail
               exact zk.go k (by omega) (by omega) (by rw [hs]; exact congrArg (fun z => [Blk.dead, .dead, .grow _ false z]) (rowPut hl2 (by omega)).symm) ⟨rfl, rfl, rfl, rfl, by rw [hs]; exact congrArg (fun z => some (AV.gr 2 z)) (by rw [List.length_append, hll, hl1] <;> rfl), rfl, trivial⟩
       | zero =>
         have hm1 : (((0 : Nat) : Int) - 1) = -1 := rfl
         cases hx : zH (addS b m n) alwP with
         | true =>
           have hi0 := hz hx
           subst hi0
           rw [hno hx]
           conv => whnf
           repeat' ((with_reducible first | refine XBr.y fun h => ?_ | refine XBr.n fun h => ?_ | refine XBr.dec (fun h => ?_) fun h => ?_ | refine XBr.y2 fun h => ?_ | refine XBr.n2 fun h => ?_ | refine XBr.bne (fun h => ?_) fun h => ?_ | refine XInt.a ?_) <;> conv => whnf)
           ·rw [if_pos rfl]; exact ⟨.low rfl⟩
           ·rename_i h; exact absurd h (by decide)
         | false =>
           have hs := hyes hx i (by omega)
           have he : outO (addS b m n) (i + 1) (b.room + 1).toNat = some (crL (addS b m n) (i + 1)) := by rw [hend, if_neg (by omega)]
           have hll : (crL (addS b m n) (i + 1)).length = i + 1 := wX _ _
           rw [hs, he]
           conv => whnf
           repeat' first | ((with_reducible first | refine XBr.y fun h => ?_ | refine XBr.n fun h => ?_ | refine XBr.dec (fun h => ?_) fun h => ?_ | refine XBr.y2 fun h => ?_ | refine XBr.n2 fun h => ?_ | refine XBr.bne (fun h => ?_) fun h => ?_ | refine XInt.a ?_) <;> conv => whnf) | ((refine zh.mk (zm _) ?_); conv => whnf) | fail
           exact zk.go (i + 1) ⟨by omega, fun h => by cases h⟩ (by omega) (by rw [he] <;> rfl) ⟨rfl, rfl, rfl, by rw [he] <;> rfl, rfl, trivial⟩
      ·obtain rfl : i = b.months.length + 1 := by omega
       have hnf : zH (addS b m n) alwP = false := by
        cases h : zH (addS b m n) alwP with
        | false => rfl
        | true => have := hz h; omega
       have hll : (crL (addS b m n) (b.months.length + 1)).length = b.months.length + 1 := wX _ _
       rw [hend, if_neg (show ¬ b.months.length + 1 = 0 by omega), if_neg (show ¬ zH (addS b m n) alwP = true by rw [hnf]; simp)]
       repeat' ((with_reducible first | refine XBr.y fun h => ?_ | refine XBr.n fun h => ?_ | refine XBr.dec (fun h => ?_) fun h => ?_) <;> conv => whnf)
       exact ⟨Froz.tup (.cons (Froz.grow rfl (zm _) (lowI _)) (.cons (.low rfl) .nil))⟩
 ·rw [if_pos hE]
  generalize bedE b = e at hck hE
  refine Comp.body (T := tab) (res := [.tmp 6, .tmp 7]) zb [9, 30] Tryz.func124 rfl (by kernel_rfl) Tryz.ntmps124 rfl (by simp only [List.length_cons, List.length_nil]; decide) (by simp only [lowL, bedL, AV.low]; rfl) ?_; conv => whnf
  repeat' first | ((with_reducible first | refine XBr.y2 fun h => ?_ | refine XBr.n2 fun h => ?_ | refine XBr.bne (fun h => ?_) fun h => ?_) <;> conv => whnf) | ((refine za.ret hck ?_); conv => whnf) | fail
  exact ⟨.low rfl⟩
end GA
end
section
namespace GA
open Go Go.RowKit Go.Proofs
structure kI (x y : Bd) : Prop where
 same : qv x y
 okx : BedOk x
 oky : BedOk y
 ag : ∀ m n, agB x alwP m n = true ↔ agB y alwP m n = true
theorem kI.cn {x y : Bd} (h : kI x y) {m : Nat} (hm : m <= x.months.length) (n : Nat) : cnB x alwP m n = cnB y alwP m n := by
 have hm' : m <= y.months.length := by rw [<- h.same.m]; exact hm
 rw [Bool.eq_iff_iff, cn_iff h.okx hm, cn_iff h.oky hm']
 constructor
 ·rintro ⟨c, hc, e⟩
  exact ⟨c, hc.other h.same fun i _ => (h.ag _ _).1, e⟩
 ·rintro ⟨c, hc, e⟩
  exact ⟨c, hc.other h.same.symm fun i _ => (h.ag _ _).2, e⟩
theorem kI.can {x y : Bd} (h : kI x y) {m : Nat} (hm : m <= x.months.length) : canL x m = canL y m := by
 unfold canL
 rw [show cnB x alwP m = cnB y alwP m from funext (h.cn hm)]
theorem kI.rows {x y : Bd} (h : kI x y) : gn x = gn y := by
 unfold gn
 rw [<- h.same.m]
 exact zy fun i hi => h.can (by omega)
theorem kI.bnd {x y : Bd} (h : kI x y) : bndL x = bndL y := by
 unfold bndL
 rw [<- h.same.m]
 refine List.map_congr_left fun i hi => ?_
 have := List.mem_range.1 hi
 unfold bndP
 rw [h.can (by omega)]
theorem gb {F G : Nat -> Nat} : ∀ {k : Nat}, (∀ i, i < k -> F i = G i) -> lkF F k = lkF G k
 | 0, _ => rfl
 | k + 1, h => by
   unfold lkF
   rw [gb fun i hi => h i (by omega), h k (by omega)]
theorem kI.lk {x y : Bd} (h : kI x y) : lkB x = lkB y := by
 unfold lkB
 rw [<- h.same.m]
 exact gb fun i hi => by rw [h.can (by omega)]
theorem kI.cr {x y : Bd} (h : kI x y) : ∀ {m : Nat}, m <= x.months.length -> GA.cr x m = GA.cr y m
 | 0, _ => by
   unfold GA.cr
   rw [show cnB x alwP 0 = cnB y alwP 0 from funext (h.cn (Nat.zero_le _))]
 | m + 1, hm => by
   unfold GA.cr
   rw [h.cr (m := m) (by omega), h.same.lv, show cnB x alwP (m + 1) = cnB y alwP (m + 1) from funext (h.cn hm)]
theorem kI.crL {x y : Bd} (h : kI x y) : GA.crL x (x.months.length + 1) = GA.crL y (y.months.length + 1) := by
 unfold GA.crL
 rw [<- h.same.m]
 exact zy fun i hi => by rw [h.cr (by omega)]
theorem kI.none {x y : Bd} (h : kI x y) : zH x alwP = zH y alwP := qA h.okx h.oky h.same h.ag
theorem gW {b : Bd} (ok : BedOk b) : kI (ownB b) (thB b) := ⟨⟨rfl, rfl, rfl, rfl⟩, ⟨ok.r1, ok.r2, ok.m1, ok.m2, ok.f1, ok.f2, ok.u1, ok.u2, ok.mo⟩, ⟨ok.r1, ok.r2, ok.m1, ok.m2, ok.f1, ok.f2, ok.u1, ok.u2, ok.mo⟩, fun _ _ => Iff.rfl⟩
theorem add_like {b : Bd} (ok : BedOk b) (m n : Nat) : kI (addS (ownB b) m n) (addS (thB b) m n) := ⟨⟨rfl, rfl, rfl, rfl⟩, ⟨ok.r1, ok.r2, ok.m1, ok.m2, ok.f1, ok.f2, ok.u1, ok.u2, ok.mo⟩, ⟨ok.r1, ok.r2, ok.m1, ok.m2, ok.f1, ok.f2, ok.u1, ok.u2, ok.mo⟩, fun _ _ => Iff.rfl⟩
theorem qX (b : Bd) : z8 (ownB b) = z8 (thB b) := by
 unfold z8
 by_cases hE : bedE b = 0
 ·have ok := (zz b).1 hE
  rw [(gW ok.toBedOk).none]; rfl
 ·rw [if_pos (show bedE (ownB b) ≠ 0 from hE), if_pos (show bedE (thB b) ≠ 0 from hE)]; rfl
theorem zbW {b : Bd} (h : z8 (thB b) = 0) : BedOk b := by
 have hE : bedE b = 0 := by
  by_cases hE : bedE (thB b) = 0
  ·exact hE
  ·unfold z8 at h; rw [if_pos hE] at h; exact h
 exact ((zz b).1 hE).toBedOk
theorem canV_own (b : Bd) : canV (ownB b) = canV (thB b) := by
 unfold canV
 rw [qX]
 by_cases h : z8 (thB b) = 0
 ·rw [if_neg (fun h' => h' h), if_neg (fun h' => h' h), (gW (zbW h)).rows]
 ·rw [if_pos h, if_pos h]
theorem zda (b : Bd) : jn (ownB b) = jn (thB b) := by
 unfold jn
 rw [qX]
 by_cases h : z8 (thB b) = 0
 ·rw [if_neg (fun h' => h' h), if_neg (fun h' => h' h), (gW (zbW h)).bnd]
 ·rw [if_pos h, if_pos h]
theorem lookA_own (b : Bd) : zac (ownB b) = zac (thB b) := by
 unfold zac
 rw [qX]
 by_cases h : z8 (thB b) = 0
 ·rw [if_neg (fun h' => h' h), if_neg (fun h' => h' h), (gW (zbW h)).lk]
 ·rw [if_pos h, if_pos h]
theorem zcw (b : Bd) (month amount : Int) : k0 (ownB b) month amount = k0 (thB b) month amount := by
 unfold k0
 by_cases hE : bedE b = 0
 ·have ok := ((zz b).1 hE).toBedOk
  have hl := add_like ok month.toNat amount.toNat
  have hc := hl.crL
  rw [hl.none]
  change GA.crL _ (b.months.length + 1) = GA.crL _ (b.months.length + 1) at hc
  show (if bedE b ≠ 0 then _ else if inZ month 0 b.months.length = false then _ else if inZ amount 0 b.room = false then _ else if zH _ alwP = true then _ else AV.tup [.sl false (ints (GA.crL _ (b.months.length + 1))), _]) = _
  rw [hc]; rfl
 ·rw [if_pos (show bedE (ownB b) ≠ 0 from hE), if_pos (show bedE (thB b) ≠ 0 from hE)]; rfl
theorem zbE (b : Bd) (hm : b.months.length <= 1000) (month amount : Int) : ∃ nl l e, k0 b month amount = .tup [.sl nl (ints l), .int .i64 e] /\ l.length <= 100000 := by
 unfold k0
 split
 ·exact ⟨true, [], _, rfl, by simp⟩
 ·split
  ·exact ⟨true, [], _, rfl, by simp⟩
  ·split
   ·exact ⟨true, [], _, rfl, by simp⟩
   ·split
    ·exact ⟨true, [], _, rfl, by simp⟩
    ·exact ⟨false, _, _, rfl, by unfold GA.crL; rw [zj]; omega⟩
theorem zdO {F G : Nat -> Nat} {k k' : Nat} (hk : k = k') (h : ∀ i, i < k -> F i = G i) : lkF F k = lkF G k' := by subst hk; exact gb h
theorem can_form (y : Bd) : ∃ nl R B K e, canV y = .tup [.sl nl (yL R), .int .i64 e] /\ jn y = .tup [.sl nl (chsA B), .int .i64 e] /\ zac y = .tup [natA K.1, natA K.2, .int .i64 e] /\ lkF (fun m => (R.getD m default).length) R.length = K /\ B.length = R.length /\ (∀ m, m < R.length -> B.getD m default = ((R.getD m default).getD 0 default, (R.getD m default).getD ((R.getD m default).length - 1) default) /\ 0 < (R.getD m default).length) /\ R.length <= 1000 /\ (∀ r ∈ R, r.length <= 1000) /\ K.2 <= 1000 /\ (∀ m, (R.getD m default).length <= 1000) := by
 unfold canV jn zac
 by_cases h : z8 y = 0
 ·rw [if_neg (fun h' => h' h), if_neg (fun h' => h' h), if_neg (fun h' => h' h)]
  obtain ⟨ok, -⟩ := ky.1 h
  have m2 := ok.m2
  have hl := canRs_len y
  have hg : ∀ m, m < y.months.length + 1 -> (gn y).getD m default = canL y m := fun m hm => canRs_get (by omega)
  have hcl : ∀ m, (canL y m).length <= 121 := fun m => yR _ _
  refine ⟨false, gn y, bndL y, lkB y, 0, rfl, rfl, rfl, ?_, ?_, fun m hm => ?_, by omega, fun r hr => ?_, ?_, fun m => ?_⟩
  ·unfold lkB
   exact zdO hl fun i hi => by rw [hg i (by omega)]
  ·rw [hl]; unfold bndL; simp
  ·rw [hl] at hm
   rw [hg m hm]
   refine ⟨?_, gK h (by omega)⟩
   unfold bndL
   rw [List.getD_eq_getElem?_getD, List.getElem?_map, List.getElem?_range (by omega)]; rfl
  ·obtain ⟨i, hi, rfl⟩ := yQ.1 hr
   have := hcl i; omega
  ·have := (lkF_le hcl (y.months.length + 1)).1
   show (lkF _ _).2 <= 1000
   omega
  ·by_cases hm : m < y.months.length + 1
   ·rw [hg m hm]; have := hcl m; omega
   ·rw [List.getD_eq_getElem?_getD, List.getElem?_eq_none (by omega)]; exact Nat.zero_le _
 ·rw [if_pos h, if_pos h, if_pos h]
  exact ⟨true, [], [], (0, 0), _, rfl, rfl, rfl, rfl, rfl, fun m hm => (by cases hm), (by simp), fun r hr => (by cases hr), (by simp), fun m => (by simp; exact Nat.zero_le _)⟩
end GA
end
section
namespace GA
open Go Go.RowKit Go.Proofs
theorem crL_one (b : Bd) {F : Nat -> Bool} (hF : F = cnB b alwP 0) (hne : 0 < (lstF F 121).length) : (ints (lstF F 121)).take 1 = ints (crL b 1) := by
 have h1 : (lstF F 121).take 1 = crL b 1 := by
  subst hF
  unfold crL
  rw [ya]
  show _ = [((cr b 0 : Nat) : Int)]
  unfold cr
  rw [<- List.head?_filter]
  unfold lstF at hne ⊢
  cases h : (List.range 121).filter (cnB b alwP 0) with
  | nil => rw [h] at hne; simp at hne
  | cons x l => rfl
 unfold ints
 rw [<- h1, List.map_take]
theorem crL_next (b : Bd) (k : Nat) : crL b (k + 1) = crL b k ++ [(cr b k : Int)] := by unfold crL; rw [kr]
theorem crL_len (b : Bd) (k : Nat) : (crL b k).length = k := zj _ _
theorem crL_get (b : Bd) {k i : Nat} (h : i < k) : (crL b k).getD i default = (cr b i : Int) := yq _ h
theorem XGet.susJ {l : List Su} {n e : Nat} {k : List AV -> Prop} (j : Nat) (he : e = j) (h1 : n = l.length) (h2 : j < l.length) (h : k (suA (l.getD j default)).cells) : XGet (sus l) n e k := by
 subst he
 exact XGet.mapF (f := suA) default h1 (by omega) h
theorem XGet.intJ {xs : List Int} {n e : Nat} {k : List AV -> Prop} (j : Nat) (he : e = j) (h1 : n = xs.length) (h2 : j < xs.length) (h : k [.int .i64 (xs.getD j default)]) : XGet (ints xs) n e k := by
 subst he
 exact XGet.mapF (f := AV.int .i64) default h1 (by omega) h
theorem rowB_next {b : Bd} {j k q : Nat} (h : (b.surveys.getD j default).m = (k : Int)) : rowB b (j + 1) q = if q = k then .grow 3 ((rowS b j q).isEmpty && false) (ints (rowS b j q) ++ [natA j]) else rowB b j q := by
 by_cases e : q = k
 ·subst e; rw [if_pos rfl, yE h]
 ·rw [if_neg e, zi (by rw [h]; omega)]
def cogR (b : Bd) (m n : Nat) : AV := bif zH (addS b m n) alwP then .tup [.sl true [], .int .i64 6] else .tup [.gr 0 (crL (addS b m n) (b.months.length + 1)).length, .int .i64 0]
def cogH (b : Bd) (m n : Nat) : List Blk := bif zH (addS b m n) alwP then [] else [.grow 3 false (ints (crL (addS b m n) (b.months.length + 1)))]
theorem keyS_B (b : Bd) : keyS b = (esT 4 b b.surveys.length).map (·.1) := (zan 4 b _).symm
set_option maxHeartbeats 4000000 in
theorem zdm (b : Bd) (hE : bedE b = 0) (hw : b.nls = true -> b.surveys = []) (m n : Nat) (hi1 : inZ (m : Int) 0 (b.months.length : Int) = true) (hi2 : inZ (n : Int) 0 b.room = true) :
  yz Tryz.prog 18 [bedA b, .int .i64 m, .int .i64 n] (cogR b m n) (cogH b m n) := by
 have ok := (zz b).1 hE
 have hm : b.months.length <= 100000 := by have := ok.m2; omega
 have hs : b.surveys.length <= 100000 := by have := ok.s1; omega
 have hck := ki b hm hs
 have ham := zS b (n : Int)
 have e1 : ((b.months.map moA).length : Int) = b.months.length := by rw [List.length_map]
 have e2 : ((b.surveys.map suA).length : Int) = b.surveys.length := by rw [List.length_map]
 have hinm := y8 (m : Int) 0 ((b.months.map moA).length : Int)
 have hie : inZ (m : Int) 0 ((b.months.map moA).length : Int) = inZ (m : Int) 0 (b.months.length : Int) := by rw [e1]
 rw [hie] at hinm
 rw [hE] at hck
 obtain ⟨q1, q2⟩ := zx.1 hi1
 obtain ⟨q3, q4⟩ := zx.1 hi2
 rw [hi1] at hinm
 rw [hi2] at ham
 have okK := addS_k ok (m := m) (n := n) (by omega) q4
 have okB := okK.toBedOk
 have hcan := can_c (addS b m n) okK 205 [] alwP (allF_c _)
 have hsm : ∀ s ∈ (addS b m n).surveys, 0 <= s.m /\ s.m <= 10 := fun s hs => by
  have := okK.su s hs
  have h2 : (addS b m n).months.length <= 10 := okK.m2
  omega
 have hlB : (addS b m n).surveys.length = b.surveys.length + 1 := by show (b.surveys ++ [_]).length = _; rw [List.length_append]; rfl
 have hsu : sus (addS b m n).surveys = b.surveys.map suA ++ [suA ⟨m, n, n⟩] := by show (b.surveys ++ [_]).map suA = _; rw [List.map_append]; rfl
 have hsl : (b.surveys.map suA).length = b.surveys.length := List.length_map _
 have s1 := ok.s1
 have hcs : (b.nls = false /\ (b.surveys.length = 0 \/ True) /\ sus (addS b m n).surveys = b.surveys.map suA ++ [suA ⟨m, n, n⟩]) \/ (b.nls = true /\ b.surveys.length = 0 /\ sus (addS b m n).surveys = [suA ⟨m, n, n⟩]) := by
  cases hnl : b.nls with
  | false => exact .inl ⟨rfl, .inr trivial, hsu⟩
  | true => exact .inr ⟨rfl, by rw [hw hnl]; rfl, by show (b.surveys ++ [_]).map suA = _; rw [hw hnl]; rfl⟩
 clear hsu
 rcases hcs with ⟨hnl, hS, hsu⟩ | ⟨hnl, hS, hsu⟩
 all_goals
  refine yz.body (T := tab) (res := [.tmp 6, .tmp 7]) zb [3, 50] Tryz.func18 rfl (by kernel_rfl) Tryz.ntmps18 rfl (by simp only [List.length_cons, List.length_nil]; decide) (by simp only [lowL, bedL, AV.low]; rfl) (by unfold cogR cogH; cases zH (addS b m n) alwP <;> rfl) (fun x hx => by unfold cogH at hx; cases hno : zH (addS b m n) alwP <;> rw [hno] at hx <;> simp only [cond, List.mem_cons, List.not_mem_nil, or_false] at hx; subst hx; exact lowI _) ?_; conv => whnf
  repeat' first | ((with_reducible first | apply XBr.tt | refine XBr.y2 fun h => ?_ | refine XBr.n2 fun h => ?_ | refine XBr.bne (fun h => ?_) fun h => ?_) <;> conv => whnf) | with_reducible apply XBr.not | ((first | refine zh.a ?_ | refine za.ret hck ?_ | refine za.ret hinm ?_ | refine za.ret ham ?_); conv => whnf) | (refine za.inl (T := tab) (res := [.tmp 2]) zb [] Tryz.func100 rfl (by kernel_rfl) Tryz.ntmps100 rfl (by simp only [List.length_append, List.length_cons, List.length_nil]; decide) ?_; conv => whnf) | ((first | (with_reducible refine XBr.no hnl ?_) | (with_reducible refine XBr.yes hnl ?_) | refine zh.mk (wideSu _) ?_ | (refine zh.mk (by rw [List.length_append] <;> rfl) ?_)); conv => whnf) | fail
  iterate 11 refine Walk.nilrow 3 ?_
  refine Walk.thenKeep ?_
  refine Walk.loopGK zb [] [(3, .ptr 0 0), (6, _), (7, _), (10, .ptr 3 0), (52, .gr 1 (b.surveys.length + 1)), (53, .int .i64 (b.surveys.length + 1 : Nat))] ⟨rfl, rfl, rfl, rfl, by first | rfl | (rw [hS] <;> rfl) | (show some (AV.gr 1 _) = _; rw [List.length_map] <;> rfl), by first | rfl | (rw [hS] <;> rfl) | (show some (AV.int _ _) = _; rw [List.length_map] <;> rfl), trivial⟩ (fun j : Nat => j <= b.surveys.length + 1) (fun j => [(54, natA j)]) (fun j => [.cells (bedG b 1 (b.surveys.length + 1)), .grow 62 false (sus (addS b m n).surveys), .map (esT 4 (addS b m n) j), .cells (bedG b 1 (b.surveys.length + 1) ++ [.mp 2]), rowB (addS b m n) j 0, rowB (addS b m n) j 1, rowB (addS b m n) j 2, rowB (addS b m n) j 3, rowB (addS b m n) j 4, rowB (addS b m n) j 5, rowB (addS b m n) j 6, rowB (addS b m n) j 7, rowB (addS b m n) j 8, rowB (addS b m n) j 9, rowB (addS b m n) j 10]) (fun j => b.surveys.length + 1 - j) 0 (Nat.zero_le _) (by first | (rw [hsu] <;> rfl) | (rw [hsu, hS] <;> rfl) | (rw [hsu]; show [Blk.cells (bedG b 1 (b.surveys.length + 1)), _, _, Blk.cells (bedG b 1 (b.surveys.length + 1) ++ _), _, _, _, _, _, _, _, _, _, _, _] = _; rw [<- hsl] <;> rfl)) ⟨rfl, trivial⟩ ?_ (fun _ _ => (show (15 : Nat) <= 15 from Nat.le_refl 15)) ?_
  ·intro q hq
   refine ⟨fun z hz => ?_, fun z hz => ?_⟩
   ·simp only [List.mem_cons, List.not_mem_nil, or_false] at hz
    rcases hz with rfl | rfl | rfl | rfl | rfl | rfl | rfl | rfl | rfl | rfl | rfl | rfl | rfl | rfl | rfl <;> first | exact zbD _ | exact esT_low 4 _ hsm q (by omega) | exact lowI _ | (simp only [Blk.low, bedG, List.cons_append, List.nil_append, lowL, AV.low, yn]; rfl)
   ·simp only [List.cons_append, List.nil_append, List.mem_cons, List.not_mem_nil, or_false] at hz
    rcases hz with rfl | rfl | rfl | rfl | rfl | rfl | rfl <;> rfl
  intro j hj
  conv => whnf
  by_cases hlt : j < b.surveys.length + 1
  ·have hsv := hsm _ (zB (xs := (addS b m n).surveys) (i := j) (d := default) (by omega))
   have hg := esT_get 4 (addS b m n) (fun s h => (hsm s h).1) j (by omega)
   have hes : esT 4 (addS b m n) (j + 1) = mput ((addS b m n).surveys.getD j default).m (.gr (4 + ((addS b m n).surveys.getD j default).m.toNat) (rowS (addS b m n) (j + 1) ((addS b m n).surveys.getD j default).m.toNat).length) (esT 4 (addS b m n) j) := rfl
   have hrl : ∀ k, (rowS (addS b m n) j k).length <= j := fun k => by unfold rowS; rw [List.length_map]; exact Nat.le_trans (List.length_filter_le _ _) (by simp)
   have hsul : (sus (addS b m n).surveys).length = b.surveys.length + 1 := by unfold sus; rw [List.length_map]; exact hlB
   repeat' first | ((with_reducible first | refine XBr.y fun h => ?_ | refine XBr.n fun h => ?_ | refine XBr.dec (fun h => ?_) fun h => ?_) <;> conv => whnf) | ((first | refine zh.mk ⟨hsul, rfl, by omega, by omega⟩ ?_ | refine XGet.susJ j (by omega) hlB.symm (by omega) ?_); conv => whnf) | fail
   obtain ⟨k, hk10, hkm⟩ : ∃ k : Nat, k <= 10 /\ ((addS b m n).surveys.getD j default).m = k := ⟨((addS b m n).surveys.getD j default).m.toNat, by omega, by omega⟩
   rw [hkm] at hes ⊢
   rw [Int.toNat_natCast, zcG hkm] at hes
   have hnx := fun q => rowB_next (b := addS b m n) (j := j) (q := q) hkm
   obtain q := fw.mk' k
   have hkk : k = 0 \/ k = 1 \/ k = 2 \/ k = 3 \/ k = 4 \/ k = 5 \/ k = 6 \/ k = 7 \/ k = 8 \/ k = 9 \/ k = 10 := by omega
   rcases hkk with rfl | rfl | rfl | rfl | rfl | rfl | rfl | rfl | rfl | rfl | rfl
   all_goals
    have hl := hrl q.val
    have hgk := hg q.val
    apply Walk.drawX zb zg [] [15, 16] (hsV _ [id, fun H => H.set (4 + q.val) (.grow 3 ((rowS (addS b m n) j q.val).isEmpty && false) (ints (rowS (addS b m n) j q.val) ++ [natA j])), fun H => (H.set (4 + q.val) (.grow 3 ((rowS (addS b m n) j q.val).isEmpty && false) (ints (rowS (addS b m n) j q.val) ++ [natA j]))).set 2 (.map (mput q.val (.gr (4 + q.val) ((rowS (addS b m n) j q.val).length + 1)) (esT 4 (addS b m n) j)))]) [_, _, _, _, _, _, _, _, _, _, _, _, .gr (4 + q.val) (rowS (addS b m n) j q.val).length, _, _, .gr (4 + q.val) ((rowS (addS b m n) j q.val).length + 1), _] (by kernel_rfl) rfl
    ·skip
     repeat' first | ((with_reducible first | apply Chk.go | apply ChkA.go); conv => whnf) | (refine zh.a ?_; conv => whnf) | (with_reducible first | apply XAnd.mk | exact trivial) | (exact zd.mk rfl rfl) | ((refine yP.rowI (te := 3) (xs := rowS (addS b m n) j q.val) (4 + q.val) rfl hgk ?_); conv => whnf) | fail
    ·skip
     repeat' first | ((with_reducible first | apply Chk.go | apply ChkF.go | apply ChkB.go); conv => whnf) | (with_reducible first | apply XAnd.mk | exact trivial) | (exact zd.mk rfl rfl) | fail
    conv => whnf
    repeat' ((with_reducible refine XInt.a ?_); conv => whnf)
    refine zp.go (j + 1) [.cells [.int .i64 q.val, .int .i64 ((addS b m n).surveys.getD j default).lo, .int .i64 ((addS b m n).surveys.getD j default).hi]] (by omega) (by omega) ?_ ⟨rfl, rfl, rfl, rfl, rfl, rfl, rfl, trivial⟩
    rw [hes, hnx 0, hnx 1, hnx 2, hnx 3, hnx 4, hnx 5, hnx 6, hnx 7, hnx 8, hnx 9, hnx 10]
    rfl
  ·obtain rfl : j = b.surveys.length + 1 := by omega
   repeat' ((with_reducible first | refine XBr.y fun h => ?_ | refine XBr.n fun h => ?_ | refine XBr.dec (fun h => ?_) fun h => ?_) <;> conv => whnf)
   refine w6.go [] _ [(3, .pim (bedC (addS b m n))), (6, .sl true []), (7, .int .i64 0), (10, dskA (addS b m n))] rfl (fun x hx => by cases hx) ⟨⟨_, rfl, .all (Froz.ptr rfl (bedOne _) ?_)⟩, ⟨_, rfl, .same rfl⟩, ⟨_, rfl, .same rfl⟩, ⟨_, rfl, .all (Froz.ptr rfl (dskOne _) ?_)⟩, trivial⟩ ?_
   ·exact .cons (.low rfl) (.cons (.low rfl) (.cons (.low rfl) (.cons (.low (yn _)) (.cons (Froz.grow rfl (by rw [List.length_map]; exact hlB) (zbD _)) .nil))))
   ·refine .cons (.low rfl) (.cons (.low rfl) (.cons (.low rfl) (.cons (.low (yn _)) (.cons (Froz.grow rfl (by rw [List.length_map]; exact hlB) (zbD _)) (.cons ?_ .nil)))))
    have hkB : keyS (addS b m n) = (esT 4 (addS b m n) (b.surveys.length + 1)).map (·.1) := by rw [keyS_B, hlB]
    unfold vW
    rw [hkB]
    refine Froz.mp rfl (gZ _ (fun k => slA (rowT (addS b m n) k.toNat)) _ fun p hp => ?_)
    obtain ⟨h1, h2, h3⟩ := zct 4 (addS b m n) hsm _ (by omega) p hp
    rw [h3]
    obtain ⟨k, hk, hk2⟩ : ∃ k : Nat, k <= 10 /\ p.1.toNat = k := ⟨p.1.toNat, by omega, rfl⟩
    rw [hk2]
    unfold rowT
    rw [hlB]
    have hkk : k = 0 \/ k = 1 \/ k = 2 \/ k = 3 \/ k = 4 \/ k = 5 \/ k = 6 \/ k = 7 \/ k = 8 \/ k = 9 \/ k = 10 := by omega
    rcases hkk with rfl | rfl | rfl | rfl | rfl | rfl | rfl | rfl | rfl | rfl | rfl <;> exact Froz.grow rfl (List.length_map _) (lowI _)
   conv => whnf
   cases hn : zH (addS b m n) alwP with
   | true =>
     rw [show cogR b m n = .tup [.sl true [], .int .i64 6] by unfold cogR; rw [hn]; rfl, show cogH b m n = [] by unfold cogH; rw [hn]; rfl]
     have hn' : (vecF 121 (cnB (addS b m n) alwP 0) == List.replicate 121 false) = true := hn
     repeat' ((first | refine za.ret fp ?_ | refine za.ret hcan ?_ | refine XIx.mat 0 rfl (by omega) rfl ?_ | refine ka rfl ?_ | refine xeqb0 ?_ | (with_reducible refine XBr.yes hn' ?_)); conv => whnf)
     exact wO.mk' [] rfl (by decide) trivial rfl
   | false =>
     rw [show cogR b m n = .tup [.gr 0 (crL (addS b m n) (b.months.length + 1)).length, .int .i64 0] by unfold cogR; rw [hn]; rfl, show cogH b m n = [.grow 3 false (ints (crL (addS b m n) (b.months.length + 1)))] by unfold cogH; rw [hn]; rfl]
     have hn' : (vecF 121 (cnB (addS b m n) alwP 0) == List.replicate 121 false) = false := hn
     have hcc := v6 okB hn
     have hLn : 0 < (lstF (cnB (addS b m n) alwP 0) 121).length := List.length_pos_of_mem (jG.2 ⟨cr (addS b m n) 0, by have := yr (hcc 0 (Nat.zero_le _)); have : (addS b m n).room <= 120 := okB.r2; omega, hcc 0 (Nat.zero_le _), rfl⟩)
     have hLl : (ints (lstF (cnB (addS b m n) alwP 0) 121)).length = (lstF (cnB (addS b m n) alwP 0) 121).length := zm _
     repeat' ((first | refine za.ret fp ?_ | refine za.ret hcan ?_ | refine XIx.mat 0 rfl (by omega) rfl ?_ | refine ka rfl ?_ | refine xeqb0 ?_ | (with_reducible refine XBr.no hn' ?_) | refine za.amList ?_ | refine zh.mk ⟨⟨by omega, by omega, by omega, by omega⟩, hLl, rfl⟩ ?_); conv => whnf)
     refine Walk.truncCell 17 0 16 (lstF (cnB (addS b m n) alwP 0) 121).length 1 rfl rfl rfl hLl hLn ?_
     refine Walk.loopM zb [] (fun k : Nat => k <= b.months.length) (fun k => [(6, .sl true []), (7, .int .i64 0), (10, dskA (addS b m n)), (13, .ptr 15 0), (14, .ptr 17 0), (91, .int .i64 ((b.months.map moA).length : Nat)), (92, natA k)]) (fun k => [.dead, .dead, .dead, .dead, .dead, .dead, .dead, .dead, .dead, .dead, .dead, .dead, .dead, .dead, .dead, .cells [.sl false ((matF (b.months.length + 1) 121 (cnB (addS b m n) alwP)).map (arrF .bool))], .dead, .cells [.gr 18 (crL (addS b m n) (k + 1)).length], .grow 3 false (ints (crL (addS b m n) (k + 1)))]) (fun k => b.months.length - k) 0 19 (Nat.zero_le _) (by rw [<- crL_one (addS b m n) rfl hLn, crL_len] <;> rfl) rfl ⟨rfl, rfl, rfl, rfl, rfl, rfl, rfl, trivial⟩ ?_
     intro k hk
     have hcl : (ints (crL (addS b m n) (k + 1))).length = (crL (addS b m n) (k + 1)).length := zm _
     have hcl2 : (crL (addS b m n) (k + 1)).length = k + 1 := crL_len _ _
     conv => whnf
     by_cases hltk : k < b.months.length
     ·have hgk : (crL (addS b m n) (k + 1)).getD k default = (cr (addS b m n) k : Int) := crL_get _ (by omega)
      have hck := yr (hcc k (by show k <= b.months.length; omega))
      have hlv := j7 (addS b m n) okB k (cr (addS b m n) k) hltk
      have hck1 : (cr (addS b m n) k : Int) <= b.room := hck
      repeat' first | ((with_reducible first | refine XBr.y fun h => ?_ | refine XBr.n fun h => ?_ | refine XBr.dec (fun h => ?_) fun h => ?_ | apply Chk.go | apply ChkA.go | apply ChkF.go | apply ChkB.go | apply zw.mk) <;> conv => whnf) | (with_reducible first | apply XAnd.mk | exact trivial) | (exact zd.mk rfl rfl) | (apply Walk.drawN (id := 23) zb zg [3, 50] [] (hsU _) [_, _, _, _, _, _, _] (by kernel_rfl) rfl) | ((first | (refine zh.mk ⟨hcl, rfl, by omega, by omega⟩ ?_) | ((refine XGet.intJ k (by omega) rfl (by omega) ?_); rw [hgk]) | (refine za.ret hlv ?_)); conv => whnf) | fail
      refine Walk.range (own := []) zb [(13, .ptr 15 0), (14, .ptr 17 0), (15, .ptr 19 0)] rfl ⟨rfl, rfl, rfl, trivial⟩ ?_
      intro fn
      refine jJ (addS b m n) okB k (cr (addS b m n) k) _ hltk hck _ _ ?_
      have hfind : (lvL (addS b m n) k (cr (addS b m n) k)).find? (cnB (addS b m n) alwP (k + 1)) = some (cr (addS b m n) (k + 1)) := by
       obtain ⟨x, h1, h2⟩ := v5 okB hltk (hcc k (by show k <= b.months.length; omega))
       cases hf : (lvL (addS b m n) k (cr (addS b m n) k)).find? (cnB (addS b m n) alwP (k + 1)) with
       | none => exact absurd h2 (List.find?_eq_none.1 hf x h1)
       | some y => rw [show cr (addS b m n) (k + 1) = ((lvL (addS b m n) k (cr (addS b m n) k)).find? (cnB (addS b m n) alwP (k + 1))).getD 0 from rfl, hf]; rfl
      have hlr : ∀ c ∈ lvL (addS b m n) k (cr (addS b m n) k), c < 121 := fun c hc => by
       have := ah_room okB hltk hc
       have h2 : (addS b m n).room <= 120 := okB.r2
       omega
      generalize lvL (addS b m n) k (cr (addS b m n) k) = cs at hfind hlr
      revert hfind hlr
      induction cs with
      | nil => intro h; cases h
      | cons c cs ih =>
        intro hfind hlr
        have hc121 := hlr c List.mem_cons_self
        rw [List.find?_cons] at hfind
        refine jH.go (own := []) zb rfl rfl (by decide) ?_
        intro ρ
        conv => whnf
        cases hv : cnB (addS b m n) alwP (k + 1) c with
        | false =>
          rw [hv] at hfind
          repeat' first | ((first | (with_reducible first | apply XBr.ff | refine XInt.a ?_) | (refine XIx.mat (k + 1) (by omega) (by omega) rfl ?_) | ((refine XArr.vec c rfl (by omega) (by omega) ?_); rw [hv])); conv => whnf) | fail
          exact .inl ⟨rfl, ih hfind fun x hx => hlr x (List.mem_cons_of_mem _ hx)⟩
        | true =>
          rw [hv] at hfind
          obtain rfl : c = cr (addS b m n) (k + 1) := Option.some.inj hfind
          repeat' first | ((first | (with_reducible first | apply XBr.tt | refine XInt.a ?_) | (first | refine zh.a ?_ | refine XIx.mat (k + 1) (by omega) (by omega) rfl ?_) | ((refine XArr.vec _ rfl (by omega) (by omega) ?_); rw [hv])); conv => whnf) | fail
          refine .inr ⟨rfl, ?_⟩
          conv => whnf
          repeat' ((with_reducible refine XInt.a ?_); conv => whnf)
          refine yk.go (k + 1) [.cells [natA k], .raw (.deferred (some [])), .dead] (by omega) (by omega) ?_ ⟨rfl, rfl, rfl, rfl, rfl, rfl, rfl, trivial⟩ (Nat.le_refl _) ?_ ?_ (by simp) (fun i hi => by rw [List.mem_singleton] at hi; subst hi; exact ⟨show 19 <= 19 + 1 by omega, rfl⟩)
          ·rw [crL_next (addS b m n) (k + 1), List.length_append]
           unfold ints
           rw [List.map_append]; rfl
          ·intro z hz
           simp only [List.mem_cons, List.not_mem_nil, or_false] at hz
           rcases hz with rfl | rfl | rfl | rfl | rfl | rfl | rfl | rfl | rfl | rfl | rfl | rfl | rfl | rfl | rfl | rfl | rfl | rfl | rfl <;> first | rfl | exact lowI _ | exact fR _ _ _
          ·intro z hz
           simp only [List.mem_cons, List.not_mem_nil, or_false] at hz
           rcases hz with rfl | rfl | rfl | rfl | rfl | rfl | rfl <;> first | rfl | exact dskL _
     ·obtain rfl : k = b.months.length := by omega
      repeat' ((with_reducible first | refine XBr.y fun h => ?_ | refine XBr.n fun h => ?_ | refine XBr.dec (fun h => ?_) fun h => ?_) <;> conv => whnf)
      exact wO.mk' [18] rfl (by decide) ⟨congrArg some (jM _ _ _ _).symm, trivial⟩ rfl
theorem course_g (b : Bd) (hE : bedE b = 0) (hw : b.nls = true -> b.surveys = []) (m n : Nat) (hi1 : inZ (m : Int) 0 (b.months.length : Int) = true) (hi2 : inZ (n : Int) 0 b.room = true) (hn0 : zH (addS b m n) alwP = false) :
  yz Tryz.prog 18 [bedA b, .int .i64 m, .int .i64 n] (.tup [.gr 0 (crL (addS b m n) (b.months.length + 1)).length, .int .i64 0]) [.grow 3 false (ints (crL (addS b m n) (b.months.length + 1)))] := by
 have h := zdm b hE hw m n hi1 hi2
 unfold cogR cogH at h
 rw [hn0] at h
 exact h
set_option maxHeartbeats 4000000 in
theorem zc4 (b : Bd) (hm : b.months.length <= 100000) (hs : b.surveys.length <= 100000) (hw : b.nls = true -> b.surveys = []) (month amount : Int) : Comp Tryz.prog 18 [bedA b, .int .i64 month, .int .i64 amount] (k0 b month amount) := by
 have hck := ki b hm hs
 have ham := zS b amount
 have e1 : ((b.months.map moA).length : Int) = b.months.length := by rw [List.length_map]
 have e2 : ((b.surveys.map suA).length : Int) = b.surveys.length := by rw [List.length_map]
 have hinm := y8 month 0 ((b.months.map moA).length : Int)
 have hie : inZ month 0 ((b.months.map moA).length : Int) = inZ month 0 (b.months.length : Int) := by rw [e1]
 rw [hie] at hinm
 unfold k0
 by_cases hE : bedE b = 0
 ·have ok := (zz b).1 hE
  rw [hE] at hck
  rw [if_neg (fun h => h hE)]
  cases hi1 : inZ month 0 (b.months.length : Int) with
  | false =>
    rw [hi1] at hinm
    rw [if_pos rfl]
    have hnl : True := trivial
    refine Comp.body (T := tab) (res := [.tmp 6, .tmp 7]) zb [3, 50] Tryz.func18 rfl (by kernel_rfl) Tryz.ntmps18 rfl (by simp only [List.length_cons, List.length_nil]; decide) (by simp only [lowL, bedL, AV.low]; rfl) ?_; conv => whnf
    repeat' first | ((with_reducible first | apply XBr.ff | refine XBr.y2 fun h => ?_ | refine XBr.n2 fun h => ?_ | refine XBr.bne (fun h => ?_) fun h => ?_) <;> conv => whnf) | with_reducible apply XBr.not | ((first | refine za.ret hck ?_ | refine za.ret hinm ?_); conv => whnf) | fail
    exact ⟨.low rfl⟩
  | true =>
    cases hi2 : inZ amount 0 b.room with
    | false =>
      rw [hi1] at hinm
      rw [hi2] at ham
      rw [if_neg (by simp), if_pos rfl]
      have hnl : True := trivial
      refine Comp.body (T := tab) (res := [.tmp 6, .tmp 7]) zb [3, 50] Tryz.func18 rfl (by kernel_rfl) Tryz.ntmps18 rfl (by simp only [List.length_cons, List.length_nil]; decide) (by simp only [lowL, bedL, AV.low]; rfl) ?_; conv => whnf
      repeat' first | ((with_reducible first | apply XBr.tt | apply XBr.ff | refine XBr.y2 fun h => ?_ | refine XBr.n2 fun h => ?_ | refine XBr.bne (fun h => ?_) fun h => ?_) <;> conv => whnf) | with_reducible apply XBr.not | ((first | refine za.ret hck ?_ | refine za.ret hinm ?_ | refine za.ret ham ?_); conv => whnf) | fail
      exact ⟨.low rfl⟩
    | true =>
      obtain ⟨q1, q2⟩ := zx.1 hi1
      obtain ⟨q3, q4⟩ := zx.1 hi2
      obtain ⟨m, rfl⟩ : ∃ m : Nat, month = m := ⟨month.toNat, by omega⟩
      obtain ⟨n, rfl⟩ : ∃ n : Nat, amount = n := ⟨amount.toNat, by omega⟩
      rw [if_neg (by simp), if_neg (by simp), Int.toNat_natCast, Int.toNat_natCast]
      have h := zdm b hE hw m n hi1 hi2
      unfold cogR cogH at h
      cases hno : zH (addS b m n) alwP with
      | true =>
        rw [hno] at h
        rw [if_pos rfl]
        exact h.comp (.low rfl)
      | false =>
        rw [hno] at h
        rw [if_neg (by simp)]
        exact h.comp (Froz.tup (.cons (Froz.grow rfl (zm _) (lowI _)) (.cons (.low rfl) .nil)))
 ·rw [if_pos hE]
  generalize bedE b = e at hck hE
  have hnl : True := trivial
  refine Comp.body (T := tab) (res := [.tmp 6, .tmp 7]) zb [3, 50] Tryz.func18 rfl (by kernel_rfl) Tryz.ntmps18 rfl (by simp only [List.length_cons, List.length_nil]; decide) (by simp only [lowL, bedL, AV.low]; rfl) ?_; conv => whnf
  repeat' first | ((with_reducible first | refine XBr.y2 fun h => ?_ | refine XBr.n2 fun h => ?_ | refine XBr.bne (fun h => ?_) fun h => ?_) <;> conv => whnf) | ((refine za.ret hck ?_); conv => whnf) | fail
  exact ⟨.low rfl⟩
end GA
end
section
namespace GA
open Go Go.RowKit Go.Proofs
def mosR (b : Bd) (share : Int) : AV := if valM b share b.months.length (zn b).toNat = -1 then .tup [.sl true [], .int .i64 6] else .tup [.gr 0 (zV b share b.months.length (zn b).toNat).length, .int .i64 0]
def mosH (b : Bd) (share : Int) : List Blk := if valM b share b.months.length (zn b).toNat = -1 then [] else [.grow 3 (zV b share b.months.length (zn b).toNat).isEmpty (ints (zV b share b.months.length (zn b).toNat))]
theorem mos_lr (b : Bd) (share : Int) : (mosR b share).low (mosH b share).length = true := by
 unfold mosR mosH
 by_cases h : valM b share b.months.length (zn b).toNat = -1
 ·rw [if_pos h, if_pos h]; rfl
 ·rw [if_neg h, if_neg h]; rfl
theorem mos_lH (b : Bd) (share : Int) : ∀ x ∈ mosH b share, x.low (mosH b share).length = true := fun x hx => by
 unfold mosH at hx ⊢
 by_cases h : valM b share b.months.length (zn b).toNat = -1
 ·rw [if_pos h] at hx; cases hx
 ·rw [if_neg h] at hx
  rw [List.mem_singleton] at hx
  subst hx; exact lowI _
set_option maxHeartbeats 1000000 in
theorem most_a (b : Bd) (share : Int) (hE : bedE b = 0) (hsh : 0 <= share /\ share <= b.room) : yz Tryz.prog 19 [bedA b, .int .i64 share] (mosR b share) (mosH b share) := by
 have okk := (zz b).1 hE
 have ok := okk.toBedOk
 have hsd := wk b share (by have := ok.m2; omega) (by have := okk.s1; omega)
 unfold yH at hsd
 rw [if_pos hE, yx.2 ⟨okk, hsh⟩] at hsd
 have m1 := ok.m1
 have m2 := ok.m2
 have r1 := ok.r1
 have r2 := ok.r2
 have hi : inZ share 0 b.room = true := zx.2 hsh
 have e1 : ((b.months.map moA).length : Int) = b.months.length := by rw [List.length_map]
 refine yz.body (T := tab) (res := [.tmp 4, .tmp 5]) zb [] Tryz.func19 rfl (by kernel_rfl) Tryz.ntmps19 rfl (by simp only [List.length_cons, List.length_nil]; decide) (by simp only [lowL, bedL, AV.low]; rfl) (mos_lr b share) (mos_lH b share) ?_; conv => whnf
 refine za.ret hsd ?_
 conv => whnf
 repeat' first | ((with_reducible first | refine XBr.y2 fun h => ?_ | refine XBr.n2 fun h => ?_ | refine XBr.bne (fun h => ?_) fun h => ?_ | refine XInt.a ?_) <;> conv => whnf) | (refine zh.a ?_; conv => whnf) | fail
 refine Walk.loop zb [] (fun g : Nat × List (List Int) => g.1 <= 121 /\ jW g.2 (b.months.length + 1) 121 /\ ∀ q, q < g.1 -> jZ g.2 b.months.length q = valM b share 0 q)
  (fun g => [(1, .int .i64 share), (2, .pim (bedC b)), (4, .sl true []), (5, .int .i64 0), (6, dskA b), (8, .gr 0 (b.months.length + 1)), (35, natA g.1)]) (fun g => [.grow 181 false (g.2.map arrA)]) (fun g => 121 - g.1) (0, List.replicate (b.months.length + 1) (List.replicate 121 0)) ⟨Nat.zero_le _, ⟨by simp, fun r hr => by rw [List.eq_of_mem_replicate hr]; simp⟩, fun q hq => by omega⟩ ?_ ⟨rfl, rfl, rfl, rfl, rfl, ?_, rfl, trivial⟩ ?_
 ·show _ = [Blk.grow 181 false (List.replicate (((b.months.map moA).length : Int) + 1).toNat (AV.agg (List.replicate 121 (AV.int .i64 0))))]
  rw [show (((b.months.map moA).length : Int) + 1).toNat = b.months.length + 1 by omega, List.map_replicate]
  rfl
 ·exact congrArg (fun n => some (AV.gr 0 n)) (by omega)
 rintro ⟨n, rows⟩ ⟨hn, ro, hv⟩
 dsimp only at hn ro hv ⊢
 have ro1 := ro.put b.months.length n (-1) (by omega)
 have c1 := fun (h : n < 121) => wo ro (-1) (show b.months.length < b.months.length + 1 by omega) h
 have c2 := fun (h : n < 121) => wo ro1 0 (show b.months.length < b.months.length + 1 by omega) h
 conv => whnf
 repeat' first | ((with_reducible first | refine XBr.y fun h => ?_ | refine XBr.n fun h => ?_ | refine XBr.dec (fun h => ?_) fun h => ?_ | refine XInt.a ?_) <;> conv => whnf) | ((first | (refine zh.mk ⟨by rw [List.length_map]; first | exact ro.n | exact ro1.n, rfl, by omega, by omega⟩ ?_) | refine XArr.mk (by omega) (by omega) ?_ | refine yA ?_ | refine zN.rows (w := 121) rows b.months.length n (by omega) rfl ro.n.symm (by omega) (ro.at (by omega)) (by omega) (by omega) ?_ | refine zN.rows (w := 121) _ b.months.length n (by omega) rfl ro1.n.symm (by omega) (ro1.at (by omega)) (by omega) (by omega) ?_); conv => whnf) | fail
 ·refine zk.go (n + 1, putC (putC rows b.months.length n (-1)) b.months.length n 0) ⟨by dsimp only; omega, ro1.put _ _ _ (by omega), fun q hq => ?_⟩ (by dsimp only; omega) rfl ⟨rfl, rfl, rfl, rfl, rfl, rfl, rfl, trivial⟩
  dsimp only at hq ⊢
  rw [c2 (by omega)]
  by_cases hqn : q = n
  ·rw [if_pos ⟨rfl, hqn⟩, hqn]; unfold valM; rw [if_pos h]
  ·rw [if_neg (fun h => hqn h.2), c1 (by omega), if_neg (fun h => hqn h.2), hv q (by omega)]
 ·refine zk.go (n + 1, putC rows b.months.length n (-1)) ⟨by dsimp only; omega, ro1, fun q hq => ?_⟩ (by dsimp only; omega) rfl ⟨rfl, rfl, rfl, rfl, rfl, rfl, rfl, trivial⟩
  dsimp only at hq ⊢
  rw [c1 (by omega)]
  by_cases hqn : q = n
  ·rw [if_pos ⟨rfl, hqn⟩, hqn]; unfold valM; rw [if_neg h]
  ·rw [if_neg (fun h => hqn h.2), hv q (by omega)]
 clear ro1 c1 c2
 obtain rfl : n = 121 := by omega
 refine Walk.loop zb [] (fun g : Nat × List (List Int) => g.1 <= b.months.length /\ jW g.2 (b.months.length + 1) 121 /\ ∀ i, i <= g.1 -> ∀ q : Nat, (q : Int) <= b.room -> jZ g.2 (b.months.length - i) q = valM b share i q)
  (fun g => [(2, .pim (bedC b)), (4, .sl true []), (5, .int .i64 0), (6, dskA b), (8, .gr 0 (b.months.length + 1)), (10, .int .i64 (((b.months.map moA).length : Int) - 1 - g.1))]) (fun g => [.grow 181 false (g.2.map arrA)]) (fun g => b.months.length - g.1) (0, rows)
  ⟨Nat.zero_le _, ro, fun i hi q hq => by obtain rfl : i = 0 := by { dsimp only at hi; omega }; exact hv q (by omega)⟩ rfl ⟨rfl, rfl, rfl, rfl, rfl, congrArg (fun z => some (AV.int .i64 z)) (by dsimp only; omega), trivial⟩ ?_
 clear hv ro
 rintro ⟨k, rows⟩ ⟨hk, ro, hv⟩
 dsimp only at hk ro hv ⊢
 conv => whnf
 repeat' ((with_reducible first | refine XBr.y fun h => ?_ | refine XBr.n fun h => ?_ | refine XBr.dec (fun h => ?_) fun h => ?_ | refine XInt.a ?_) <;> conv => whnf)
 ·obtain ⟨j, hj⟩ : ∃ j, j = b.months.length - (k + 1) := ⟨_, rfl⟩
  have hj1 : j + 1 = b.months.length - k := by omega
  have hjm := ok.mo _ (zB (d := default) (show j < b.months.length by omega))
  refine Walk.loop zb [] (fun g : Nat × List (List Int) => (g.1 : Int) <= b.room + 1 /\ jW g.2 (b.months.length + 1) 121 /\ (∀ i, i <= k -> ∀ q : Nat, (q : Int) <= b.room -> jZ g.2 (b.months.length - i) q = valM b share i q) /\ ∀ q, q < g.1 -> jZ g.2 j q = valM b share (k + 1) q)
   (fun g => [(2, .pim (bedC b)), (4, .sl true []), (5, .int .i64 0), (6, dskA b), (8, .gr 0 (b.months.length + 1)), (10, natA j), (66, .int .i64 (b.room + 1)), (67, natA g.1)]) (fun g => [.grow 181 false (g.2.map arrA)]) (fun g => b.room.toNat + 1 - g.1) (0, rows)
   ⟨by dsimp only; omega, ro, hv, fun q hq => by dsimp only at hq; omega⟩ rfl ⟨rfl, rfl, rfl, rfl, rfl, congrArg (fun z => some (AV.int .i64 z)) (by omega), rfl, rfl, trivial⟩ ?_
  clear hv ro
  rintro ⟨n, rows⟩ ⟨hn, ro, hv, hw⟩
  dsimp only at hn ro hv hw ⊢
  have ro1 := ro.put j n (-1) (by omega)
  have c1 := fun (h : n < 121) => wo ro (-1) (show j < b.months.length + 1 by omega) h
  have hgr := fun (h : n < 121) => y9 b j n (b.months.getD j default).pl (b.months.getD j default).th (by omega) (by omega) (by omega) (by omega) (by omega) (by omega) (by omega) (by omega) (by omega) (by omega) (by omega)
  have hlb := yp ok (j := j) (n := n) (by omega)
  conv => whnf
  repeat' first | ((with_reducible first | refine XBr.y fun h => ?_ | refine XBr.n fun h => ?_ | refine XBr.dec (fun h => ?_) fun h => ?_ | refine XInt.a ?_) <;> conv => whnf) | ((first | (refine zh.mk ⟨by rw [List.length_map]; first | exact ro.n | exact ro1.n, rfl, by omega, by omega⟩ ?_) | refine XArr.mk (by omega) (by omega) ?_ | refine yA ?_ | refine zN.rows (w := 121) rows j n (by omega) rfl ro.n.symm (by omega) (ro.at (by omega)) (by omega) (by omega) ?_); conv => whnf) | fail
  ·have hgc := hgr (by omega)
   change Comp Tryz.prog _ _ (.int .i64 (lieR b j n)) at hgc
   apply Walk.drawX zb zg [] [] (hsK _) [_, _, _, _, _, _, _, _, _, _, _, _, _, _] (by kernel_rfl) rfl
   ·skip
    repeat' first | ((with_reducible first | apply Chk.go | apply ChkA.go); conv => whnf) | (refine XIx.a ?_; conv => whnf) | (with_reducible first | apply XAnd.mk | exact trivial) | (exact zd.mk rfl rfl) | ((first | refine za.ret (jj (b.months.getD j default)) ?_ | refine za.ret hgc ?_); conv => whnf) | fail
   ·skip
    repeat' first | ((with_reducible first | apply ChkF.go | apply ChkB.go); conv => whnf) | (with_reducible first | apply XAnd.mk | exact trivial) | fail
   conv => whnf
   repeat' ((with_reducible refine XInt.a ?_); conv => whnf)
   obtain ⟨li, hli⟩ : ∃ li : Nat, lieR b j n = li := ⟨(lieR b j n).toNat, by omega⟩
   have hstep : valM b share (k + 1) n = yW (valM b share k) li (li + 1) := by
    show yW _ (lieR b (b.months.length - (k + 1)) n).toNat ((lieR b (b.months.length - (k + 1)) n).toNat + 1) = _
    rw [<- hj, hli]; rfl
   rw [hli] at hlb ⊢
   have c1' := c1 (by omega)
   refine Walk.loop zb [] (fun g : Nat × List (List Int) => g.1 <= li + 1 /\ jW g.2 (b.months.length + 1) 121 /\ (∀ i, i <= k -> ∀ q : Nat, (q : Int) <= b.room -> jZ g.2 (b.months.length - i) q = valM b share i q) /\ (∀ q, q < n -> jZ g.2 j q = valM b share (k + 1) q) /\ jZ g.2 j n = yW (valM b share k) li g.1)
    (fun g => [(2, .pim (bedC b)), (4, .sl true []), (5, .int .i64 0), (6, dskA b), (8, .gr 0 (b.months.length + 1)), (10, natA j), (11, natA n), (12, natA li), (66, .int .i64 (b.room + 1)), (67, natA n), (89, .int .i64 ((li : Int) + 1)), (90, natA g.1)]) (fun g => [.grow 181 false (g.2.map arrA)]) (fun g => li + 1 - g.1) (0, putC rows j n (-1))
    ⟨Nat.zero_le _, ro1, fun i hi q hq => by dsimp only; rw [c1', if_neg (by omega), hv i hi q hq], fun q hq => by dsimp only; rw [c1', if_neg (by omega), hw q hq], by dsimp only; rw [c1', if_pos ⟨rfl, rfl⟩]; rfl⟩ rfl ⟨rfl, rfl, rfl, rfl, rfl, rfl, rfl, rfl, rfl, rfl, rfl, rfl, trivial⟩ ?_
   clear hv ro hw c1 c1' ro1 hgr
   rintro ⟨r, rows⟩ ⟨hr, ro, hv, hw, hc⟩
   dsimp only at hr ro hv hw hc ⊢
   have hnx := fun (h : r <= li) => hv k (Nat.le_refl k) (li - r) (by omega)
   have hnb := zai ok share k (by omega) (li - r)
   have hsb := zb0 (nx := valM b share k) (lies := li) (c := 120 * k) (fun q _ => zai ok share k (by omega) q) r (by omega)
   have hst : yW (valM b share k) li (r + 1) = if valM b share k (li - r) = -1 then yW (valM b share k) li r else max (yW (valM b share k) li r) (r + valM b share k (li - r)) := rfl
   have hvx := fun (h : r <= li) => (show (rows.getD ((j : Int) + 1).toNat default).getD (li - r) default = valM b share k (li - r) by rw [show ((j : Int) + 1).toNat = b.months.length - k by omega]; exact hnx h)
   have cp := fun v => wo ro v (show j < b.months.length + 1 by omega) (show n < 121 by omega)
   conv => whnf
   repeat' first | ((with_reducible first | refine XBr.y fun h => ?_ | refine XBr.n fun h => ?_ | refine XBr.dec (fun h => ?_) fun h => ?_ | refine XBr.y2 fun h => ?_ | refine XBr.n2 fun h => ?_ | refine XBr.bne (fun h => ?_) fun h => ?_ | refine XInt.a ?_) <;> conv => whnf) | ((first | (refine zh.mk ⟨by rw [List.length_map]; exact ro.n, rfl, by omega, by omega⟩ ?_) | refine XArr.mk (by omega) (by omega) ?_ | refine XGet.map ro.n.symm (by omega) ?_ | (refine jt (li - r) (by omega) (by rw [ro.at (by omega)]; omega) ?_)); conv => whnf) | fail
   ·have hv1 := hvx (by omega)
    have hv2 : -1 <= (rows.getD ((j : Int) + 1).toNat default).getD (li - r) default /\ (rows.getD ((j : Int) + 1).toNat default).getD (li - r) default <= 120 * k := by rw [hv1]; exact hnb
    apply Walk.drawX zb zg [] [16] (hsV _ [id, fun H => H.set 0 (.grow 181 false ((putC rows j n (max ((rows.getD j default).getD n default) ((r : Int) + (rows.getD ((j : Int) + 1).toNat default).getD (li - r) default))).map arrA))]) [_, _, _, _, _, _, _, _, _, _, _, _, _, _, _, _, _] (by kernel_rfl) rfl
    ·skip
     repeat' first | ((with_reducible first | refine XInt.a ?_ | apply Chk.go | apply ChkA.go); conv => whnf) | (refine zh.a ?_; conv => whnf) | (with_reducible first | apply XAnd.mk | exact trivial) | (exact zd.mk rfl rfl) | ((first | (refine zh.mk ⟨by rw [List.length_map]; first | exact ro.n | exact (ro.put j n _ (by omega)).n, rfl, by omega, by omega⟩ ?_) | refine XArr.mk (by omega) (by omega) ?_ | refine XGet.map ro.n.symm (by omega) ?_ | (refine jt n (by omega) (by rw [ro.at (by omega)]; omega) ?_) | refine za.ret (yX _ false [_] (by simp)) ?_ | refine yA ?_ | refine zN.rows (w := 121) rows j n (by omega) rfl ro.n.symm (by omega) (ro.at (by omega)) (by omega) (by omega) ?_); conv => whnf) | fail
    ·skip
     repeat' first | ((with_reducible first | apply Chk.go | apply ChkF.go | apply ChkB.go); conv => whnf) | (with_reducible first | apply XAnd.mk | exact trivial) | (exact zd.mk rfl rfl) | ((refine zh.mk ⟨by rw [List.length_map]; first | exact ro.n | exact (ro.put j n _ (by omega)).n, rfl, by omega, by omega⟩ ?_); conv => whnf) | fail
    conv => whnf
    repeat' ((with_reducible refine XInt.a ?_); conv => whnf)
    have hcv : max ((rows.getD j default).getD n default) ((r : Int) + (rows.getD ((j : Int) + 1).toNat default).getD (li - r) default) = yW (valM b share k) li (r + 1) := by
     rw [hst, if_neg (by rw [<- hv1]; exact h), hv1, <- hc]; rfl
    refine zk.go (r + 1, putC rows j n (max ((rows.getD j default).getD n default) ((r : Int) + (rows.getD ((j : Int) + 1).toNat default).getD (li - r) default))) ⟨by dsimp only; omega, ro.put _ _ _ (by omega), fun i hi q hq => ?_, fun q hq => ?_, ?_⟩ (by dsimp only; omega) rfl ⟨rfl, rfl, rfl, rfl, rfl, rfl, rfl, rfl, rfl, rfl, rfl, rfl, trivial⟩
    ·dsimp only; rw [cp, if_neg (by omega), hv i hi q hq]
    ·dsimp only; rw [cp, if_neg (by omega), hw q hq]
    ·dsimp only; rw [cp, if_pos ⟨rfl, rfl⟩, hcv]
   ·refine zk.go (r + 1, rows) ⟨by dsimp only; omega, ro, hv, hw, ?_⟩ (by dsimp only; omega) rfl ⟨rfl, rfl, rfl, rfl, rfl, rfl, rfl, rfl, rfl, rfl, rfl, rfl, trivial⟩
    dsimp only
    rw [hc, hst, if_pos (by rw [<- hvx (by omega)]; exact h)]
   ·obtain rfl : r = li + 1 := by omega
    refine zk.go (n + 1, rows) ⟨by dsimp only; omega, ro, hv, fun q hq => ?_⟩ (by dsimp only; omega) rfl ⟨rfl, rfl, rfl, rfl, rfl, rfl, rfl, rfl, trivial⟩
    dsimp only at hq ⊢
    by_cases hqn : q = n
    ·rw [hqn, hc, hstep]
    ·exact hw q (by omega)
  ·have hn1 : (n : Int) = b.room + 1 := by omega
   refine zk.go (k + 1, rows) ⟨by dsimp only; omega, ro, fun i hi q hq => ?_⟩ (by dsimp only; omega) rfl ⟨rfl, rfl, rfl, rfl, rfl, congrArg (fun z => some (AV.int .i64 z)) (by dsimp only; omega), trivial⟩
   dsimp only at hi ⊢
   by_cases hik : i = k + 1
   ·rw [hik, <- hj]; exact hw q (by omega)
   ·exact hv i (by omega) q hq
 ·obtain rfl : k = b.months.length := by omega
  have hle := zbA b ok.f1 (by have := ok.f2; omega) ok.u1 (by have := ok.u2; omega)
  obtain ⟨a0, ha0⟩ : ∃ a0 : Nat, zn b = a0 := ⟨(zn b).toNat, by unfold zn; omega⟩
  have ha1 : (a0 : Int) <= b.room := by rw [<- ha0]; unfold zn; have := ok.f2; have := ok.u1; omega
  have hv0 : (rows.getD 0 default).getD a0 default = valM b share b.months.length a0 := by
   have := hv b.months.length (Nat.le_refl _) a0 ha1
   rw [Nat.sub_self] at this; exact this
  unfold mosR mosH
  rw [ha0, Int.toNat_natCast]
  rw [ha0] at hle
  repeat' first | ((with_reducible first | refine XBr.y1 fun h => ?_ | refine XBr.n1 fun h => ?_ | refine XBr.beq (fun h => ?_) fun h => ?_) <;> conv => whnf) | ((first | refine za.ret hle ?_ | (refine zh.mk ⟨by rw [List.length_map]; exact ro.n, rfl, by omega, by omega⟩ ?_) | refine XArr.mk (by omega) (by omega) ?_ | refine XGet.map ro.n.symm (by omega) ?_ | (refine jt a0 (by omega) (by rw [ro.at (by omega)]; omega) ?_)); conv => whnf) | fail
  ·rw [if_pos (by rw [<- hv0]; exact h), if_pos (by rw [<- hv0]; exact h)]; exact wO.mk' [] rfl (by decide) trivial rfl
  rw [if_neg (by rw [<- hv0]; exact h), if_neg (by rw [<- hv0]; exact h)]
  refine Walk.nilgr 16 3 rfl ?_
  refine Walk.loop zb [] (fun g : Nat × Nat × List Int => g.1 <= b.months.length /\ (g.2.1 : Int) <= b.room /\ g.2.2 ++ zV b share (b.months.length - g.1) g.2.1 = zV b share b.months.length a0 /\ g.2.2.length <= g.1)
   (fun g => [(2, .pim (bedC b)), (4, .sl true []), (5, .int .i64 0), (6, dskA b), (8, .gr 0 (b.months.length + 1)), (15, natA g.2.1), (16, .gr 1 g.2.2.length), (132, .int .i64 (b.months.map moA).length), (133, natA g.1)])
   (fun g => [.grow 181 false (rows.map arrA), .grow 3 g.2.2.isEmpty (ints g.2.2)]) (fun g => b.months.length - g.1) (0, a0, []) ⟨Nat.zero_le _, ha1, rfl, Nat.le_refl _⟩ rfl ⟨rfl, rfl, rfl, rfl, rfl, rfl, rfl, rfl, rfl, trivial⟩ ?_
  clear hv0 h
  rintro ⟨m, a, out⟩ ⟨hm, ham, hpl, hol⟩
  dsimp only at hm ham hpl hol ⊢
  conv => whnf
  repeat' ((with_reducible first | refine XBr.y fun h => ?_ | refine XBr.n fun h => ?_ | refine XBr.dec (fun h => ?_) fun h => ?_) <;> conv => whnf)
  ·have hjm := ok.mo _ (zB (d := default) (show m < b.months.length by omega))
   obtain ⟨k, hkm⟩ : ∃ k, b.months.length - m = k + 1 := ⟨b.months.length - m - 1, by omega⟩
   have hmk : b.months.length - (k + 1) = m := by omega
   have hgc := y9 b m a (b.months.getD m default).pl (b.months.getD m default).th (by omega) (by omega) (by omega) (by omega) (by omega) (by omega) (by omega) (by omega) (by omega) (by omega) (by omega)
   change Comp Tryz.prog _ _ (.int .i64 (lieR b m a)) at hgc
   have hlb := yp ok (j := m) (n := a) (by omega)
   apply Walk.drawX zb zg [] [] (hsK _) [_, _, _, _, _, _, _, _, _, _, _, _, _, _] (by kernel_rfl) rfl
   ·skip
    repeat' first | ((with_reducible first | apply Chk.go | apply ChkA.go); conv => whnf) | (refine XIx.a ?_; conv => whnf) | (with_reducible first | apply XAnd.mk | exact trivial) | (exact zd.mk rfl rfl) | ((first | refine za.ret (jj (b.months.getD m default)) ?_ | refine za.ret hgc ?_); conv => whnf) | fail
   ·skip
    repeat' first | ((with_reducible first | apply ChkF.go | apply ChkB.go); conv => whnf) | (with_reducible first | apply XAnd.mk | exact trivial) | fail
   conv => whnf
   repeat' ((with_reducible refine XInt.a ?_); conv => whnf)
   obtain ⟨li, hli⟩ : ∃ li : Nat, lieR b m a = li := ⟨(lieR b m a).toNat, by omega⟩
   have hps := fun r => fq (b := b) (share := share) (k := k) (a := a) (lies := li) (r := r) (by rw [hmk]; exact hli)
   have hpn := zdH (b := b) (share := share) (k := k) (a := a) (lies := li) (by rw [hmk]; exact hli)
   rw [hkm] at hpl
   rw [hli] at hlb ⊢
   refine Walk.loop zb [] (fun r : Nat => r <= li + 1 /\ ∀ q, q < r -> kH (valM b share k) li (valM b share (k + 1) a) q = false)
    (fun r => [(2, .pim (bedC b)), (4, .sl true []), (5, .int .i64 0), (6, dskA b), (8, .gr 0 (b.months.length + 1)), (15, natA a), (16, .gr 1 out.length), (17, natA m), (18, natA li), (132, .int .i64 (b.months.map moA).length), (133, natA m), (150, .int .i64 ((li : Int) + 1)), (151, natA r)])
    (fun _ => [.grow 181 false (rows.map arrA), .grow 3 out.isEmpty (ints out)]) (fun r => li + 1 - r) 0 ⟨Nat.zero_le _, fun q hq => by omega⟩ rfl ⟨rfl, rfl, rfl, rfl, rfl, rfl, rfl, rfl, rfl, rfl, rfl, rfl, rfl, trivial⟩ ?_
   rintro r ⟨hr, hno⟩
   have hnx := fun (h : r <= li) => (show (rows.getD ((m : Int) + 1).toNat default).getD (li - r) default = valM b share k (li - r) by rw [show ((m : Int) + 1).toNat = b.months.length - k by omega]; exact hv k (by omega) (li - r) (by omega))
   have hnb := zai ok share k (by omega) (li - r)
   have hva : (rows.getD m default).getD a default = valM b share (k + 1) a := by
    have := hv (k + 1) (by omega) a ham
    rw [hmk] at this; exact this
   have hrk : kH (valM b share k) li (valM b share (k + 1) a) r = (valM b share k (li - r) != -1 && ((r : Int) + valM b share k (li - r) == valM b share (k + 1) a)) := rfl
   have hvb : r <= li -> -1 <= (rows.getD ((m : Int) + 1).toNat default).getD (li - r) default /\ (rows.getD ((m : Int) + 1).toNat default).getD (li - r) default <= 120 * k := fun h => by rw [hnx h]; exact hnb
   conv => whnf
   repeat' first | ((with_reducible first | apply XBr.tt | apply XBr.ff | refine XBr.y fun h => ?_ | refine XBr.n fun h => ?_ | refine XBr.dec (fun h => ?_) fun h => ?_ | refine XBr.y1 fun h => ?_ | refine XBr.n1 fun h => ?_ | refine XBr.beq (fun h => ?_) fun h => ?_ | refine XBr.y2 fun h => ?_ | refine XBr.n2 fun h => ?_ | refine XBr.bne (fun h => ?_) fun h => ?_ | refine XInt.a ?_) <;> conv => whnf) | ((first | refine zh.a ?_ | (refine zh.mk ⟨by rw [List.length_map]; exact ro.n, rfl, by omega, by omega⟩ ?_) | refine XArr.mk (by omega) (by omega) ?_ | refine XGet.map ro.n.symm (by omega) ?_ | (refine jt (li - r) (by omega) (by rw [ro.at (by omega)]; omega) ?_) | (refine jt a (by omega) (by rw [ro.at (by omega)]; omega) ?_)); conv => whnf) | fail
   ·rename_i h1 h2
    have h3 : (r : Int) + (rows.getD ((m : Int) + 1).toNat default).getD (li - r) default = (rows.getD m default).getD a default := h
    rw [hnx (by omega)] at h2 h3
    have hr1 : kH (valM b share k) li (valM b share (k + 1) a) r = true := by rw [hrk, <- hva, h3]; simp [h2]
    refine zk.go (m + 1, li - r, out ++ [(r : Int)]) ⟨by dsimp only; omega, by dsimp only; omega, ?_, by dsimp only; rw [List.length_append]; simp; omega⟩ (by dsimp only; omega) ?_ ⟨rfl, rfl, rfl, rfl, rfl, congrArg (fun z => some (AV.int .i64 z)) (by dsimp only; omega), ?_, rfl, rfl, trivial⟩
    ·dsimp only
     rw [<- hpl, hps r (by omega) hr1 hno, show b.months.length - (m + 1) = k by omega, List.append_assoc]; rfl
    ·show [Blk.grow 181 false (rows.map arrA), Blk.grow 3 (out ++ [(r : Int)]).isEmpty (List.map (AV.int .i64) (out ++ [(r : Int)]))] = _
     rw [zD, List.map_append]
     rfl
    ·show some (AV.gr 1 (out.length + 1)) = some (AV.gr 1 (out ++ [(r : Int)]).length)
     rw [List.length_append]; rfl
   ·rename_i h1 h2
    have h3 : (r : Int) + (rows.getD ((m : Int) + 1).toNat default).getD (li - r) default ≠ (rows.getD m default).getD a default := h
    rw [hnx (by omega)] at h2 h3
    have hr1 : kH (valM b share k) li (valM b share (k + 1) a) r = false := by rw [hrk, <- hva, beq_eq_false_iff_ne.2 h3, Bool.and_false]
    refine zk.go (r + 1) ⟨by omega, fun q hq => ?_⟩ (by omega) rfl ⟨rfl, rfl, rfl, rfl, rfl, rfl, rfl, rfl, rfl, rfl, rfl, rfl, rfl, trivial⟩
    by_cases hqr : q = r
    ·rw [hqr]; exact hr1
    ·exact hno q (by omega)
   ·rw [hnx (by omega)] at h
    have hr1 : kH (valM b share k) li (valM b share (k + 1) a) r = false := by rw [hrk, h]; rfl
    refine zk.go (r + 1) ⟨by omega, fun q hq => ?_⟩ (by omega) rfl ⟨rfl, rfl, rfl, rfl, rfl, rfl, rfl, rfl, rfl, rfl, rfl, rfl, rfl, trivial⟩
    by_cases hqr : q = r
    ·rw [hqr]; exact hr1
    ·exact hno q (by omega)
   ·refine zk.go (m + 1, a, out) ⟨by dsimp only; omega, ham, ?_, by dsimp only; omega⟩ (by dsimp only; omega) rfl ⟨rfl, rfl, rfl, rfl, rfl, rfl, rfl, rfl, rfl, trivial⟩
    dsimp only
    rw [<- hpl, hpn fun q hq => hno q (by omega), show b.months.length - (m + 1) = k by omega]
  ·obtain rfl : m = b.months.length := by omega
   rw [Nat.sub_self] at hpl
   have : zV b share b.months.length a0 = out := by rw [<- hpl]; exact List.append_nil out
   rw [this]
   exact wO.mk' [1] rfl (by decide) ⟨congrArg some (jM _ _ _ _).symm, trivial⟩ rfl
theorem most_g (b : Bd) (share : Int) (hE : bedE b = 0) (hsh : 0 <= share /\ share <= b.room) (hne : valM b share b.months.length (zn b).toNat ≠ -1) :
  yz Tryz.prog 19 [bedA b, .int .i64 share] (.tup [.gr 0 (zV b share b.months.length (zn b).toNat).length, .int .i64 0]) [.grow 3 (zV b share b.months.length (zn b).toNat).isEmpty (ints (zV b share b.months.length (zn b).toNat))] := by
 have h := most_a b share hE hsh
 unfold mosR mosH at h
 rw [if_neg hne, if_neg hne] at h
 exact h
theorem mostS_c (b : Bd) (share : Int) (hE : bedE b = 0) (hsh : 0 <= share /\ share <= b.room) : Comp Tryz.prog 19 [bedA b, .int .i64 share] (zaj b share) := by
 have h := most_a b share hE hsh
 unfold mosR mosH at h
 unfold zaj
 by_cases hne : valM b share b.months.length (zn b).toNat = -1
 ·rw [if_pos hne, if_pos hne] at h
  rw [if_pos hne]
  exact h.comp (.low rfl)
 ·rw [if_neg hne, if_neg hne] at h
  rw [if_neg hne]
  exact h.comp (Froz.tup (.cons (Froz.grow rfl (List.length_map _) (lowI _)) (.cons (.low rfl) .nil)))
end GA
end
section
namespace GA
open Go Go.RowKit Go.Proofs
theorem refEven_c (b : Bd) (ok : BedOk b) (share : Int) (hsh : 0 <= share /\ share <= b.room) : Comp Tryz.prog 203 [bedA b, .int .i64 share] (.int .i64 (kA b share (b.room.toNat + 1))) := by
 have m1 := ok.m1
 have m2 := ok.m2
 have r1 := ok.r1
 have r2 := ok.r2
 have e1 : ((b.months.map moA).length : Int) = b.months.length := by rw [List.length_map]
 refine Comp.body (T := tab) (res := [.tmp 4]) zb [] Tryz.func203 rfl (by kernel_rfl) Tryz.ntmps203 rfl (by simp only [List.length_cons, List.length_nil]; decide) (by simp only [lowL, bedL, AV.low]; rfl) ?_; conv => whnf
 skip
 refine Walk.loopGK zb [] [(1, _), (2, _)] ⟨rfl, rfl, trivial⟩ (fun n : Nat => (n : Int) <= b.room + 1) (fun n => [(5, .int .i64 (kA b share n)), (6, natA n)]) (fun _ => []) (fun n => (b.room + 1).toNat - n) 0 (by omega) rfl ⟨rfl, rfl, trivial⟩ ?_ (fun _ _ => Nat.le_refl _) ?_
 ·intro k _
  refine ⟨by simp, fun z hz => ?_⟩
  simp only [List.cons_append, List.nil_append, List.mem_cons, List.not_mem_nil, or_false] at hz
  rcases hz with rfl | rfl | rfl | rfl <;> first | rfl | exact zY b
 intro n hn
 conv => whnf
 by_cases hlt : (n : Int) <= b.room
 ·have hen := ends_c b ok false (List.replicate b.months.length (n : Int)) List.length_replicate (fun x hx => by rw [List.eq_of_mem_replicate hx]; omega)
  have hev : kA b share (n + 1) = if decide (share <= endP b (List.replicate b.months.length (n : Int)) b.months.length (zn b).toNat) = true then (n : Int) else kA b share n := by rw [<- kG]; rfl
  generalize endP b (List.replicate b.months.length (n : Int)) b.months.length (zn b).toNat = e at hen hev
  have hng := negR_ge (e := e) hsh.1
  repeat' ((with_reducible first | refine XBr.y fun h => ?_ | refine XBr.n fun h => ?_ | refine XBr.dec (fun h => ?_) fun h => ?_) <;> conv => whnf)
  refine Walk.nilgr 7 3 rfl ?_
  refine Walk.loopK zb [] [(1, _), (2, _), (5, _), (6, _)] ⟨rfl, rfl, rfl, rfl, trivial⟩ (fun j : Nat => j <= b.months.length) (fun j => [(7, .gr 0 j), (8, natA j)]) (fun j => [.grow 3 (decide (j = 0)) (ints (List.replicate j (n : Int)))]) (fun j => b.months.length - j) 0 (Nat.zero_le _) rfl ⟨rfl, rfl, trivial⟩ ?_
  intro j hj
  have hjl : (ints (List.replicate j (n : Int))).length = j := by rw [zm, List.length_replicate]
  conv => whnf
  by_cases hltj : j < b.months.length
  ·skip
   repeat' first | ((with_reducible first | refine XBr.y fun h => ?_ | refine XBr.n fun h => ?_ | refine XBr.dec (fun h => ?_) fun h => ?_ | refine XInt.a ?_) <;> conv => whnf) | (refine zh.a ?_; conv => whnf) | fail
   refine zk.go (j + 1) (by omega) (by omega) ?_ ⟨rfl, rfl, rfl, rfl, rfl, rfl, trivial⟩
   rw [List.replicate_succ', show decide (j + 1 = 0) = (decide (j = 0) && false) by simp]
   show [Blk.grow _ _ (List.map (AV.int .i64) (_ ++ _))] = _
   rw [List.map_append]; rfl
  ·obtain rfl : j = b.months.length := by omega
   have hz : decide (b.months.length = 0) = false := decide_eq_false (by omega)
   rw [hz]
   repeat' first | ((with_reducible first | refine XBr.y fun h => ?_ | refine XBr.n fun h => ?_ | refine XBr.dec (fun h => ?_) fun h => ?_ | refine XInt.a ?_) <;> conv => whnf) | ((refine za.lend hen (.cons (.low (zY b)) (.cons (Froz.grow rfl hjl (lowI _)) .nil)) rfl ?_); conv => whnf) | fail
   ·rw [if_pos (decide_eq_true (by omega))] at hev
    exact zp.go (n + 1) [_] (by omega) (by omega) rfl ⟨rfl, rfl, congrArg (fun z => some (AV.int .i64 z)) hev.symm, rfl, trivial⟩
   ·rw [if_neg (by rw [decide_eq_true_eq]; omega)] at hev
    exact zp.go (n + 1) [_] (by omega) (by omega) rfl ⟨rfl, rfl, congrArg (fun z => some (AV.int .i64 z)) hev.symm, rfl, trivial⟩
 ·obtain rfl : n = b.room.toNat + 1 := by omega
  repeat' ((with_reducible first | refine XBr.y fun h => ?_ | refine XBr.n fun h => ?_ | refine XBr.dec (fun h => ?_) fun h => ?_) <;> conv => whnf)
  exact ⟨.low rfl⟩
theorem mem_getD {α : Type} {l : List α} {x d : α} (h : x ∈ l) : ∃ i, i < l.length /\ l.getD i d = x := by
 obtain ⟨i, hi, rfl⟩ := List.mem_iff_getElem.1 h
 exact ⟨i, hi, by rw [List.getD_eq_getElem?_getD, List.getElem?_eq_getElem hi]; rfl⟩
theorem allL_lt {r k i j : Nat} {d : List Int} (hij : i < j) (hj : j < (allL r k).length) : cmpL ((allL r k).getD i d) ((allL r k).getD j d) < 0 := by
 have := List.pairwise_iff_getElem.1 (gG r k) i j (by omega) hj hij
 rwa [List.getD_eq_getElem?_getD, List.getD_eq_getElem?_getD, List.getElem?_eq_getElem (by omega), List.getElem?_eq_getElem hj]
def zba (b : Bd) (share : Int) : AV := if valM b share b.months.length (zn b).toNat = -1 then .sl true [] else .sl false (ints (zV b share b.months.length (zn b).toNat))
set_option maxHeartbeats 1000000 in
theorem refMost_c (b : Bd) (ok : BedOk b) (share : Int) (hsh : 0 <= share /\ share <= b.room) (hr : b.room <= 12) (hM : b.months.length <= 3) : Comp Tryz.prog 202 [bedA b, .int .i64 share] (zba b share) := by
 have m1 := ok.m1
 have m2 := ok.m2
 have r1 := ok.r1
 have r2 := ok.r2
 have hpl := plans_c b r1 hr hM b.months.length true [] (by simp) (fun h => by omega)
 have hmap : ((allL b.room.toNat b.months.length).map fun xs => ([] : List Int) ++ xs) = allL b.room.toNat b.months.length := by
  have : (fun xs : List Int => ([] : List Int) ++ xs) = id := by funext xs; rfl
  rw [this, List.map_id]
 rw [hmap] at hpl
 have hal := qe b.room.toNat b.months.length
 have hpw := pow_b (r := b.room.toNat) (k := b.months.length) (by omega) hM
 rw [<- hal] at hpw
 have hlm : ∀ i, i < (allL b.room.toNat b.months.length).length -> ((allL b.room.toNat b.months.length).getD i default).length = b.months.length /\ ∀ x ∈ (allL b.room.toNat b.months.length).getD i default, 0 <= x /\ x <= b.room := fun i hi => by
  obtain ⟨h1, h2⟩ := qu.1 (zB (d := default) hi)
  exact ⟨h1, fun x hx => by have := h2 x hx; omega⟩
 have hmax := ga ok share b.months.length (Nat.le_refl _) (zn b).toNat
 have hpb := w0 ok share b.months.length (Nat.le_refl _) (zn b).toNat
 have hkp : ∀ xs : List Int, xs.length = b.months.length -> (∀ x ∈ xs, 0 <= x /\ x <= b.room) -> (share <= endP b xs b.months.length (zn b).toNat ↔ okP b share b.months.length (zn b).toNat xs) := fun xs h1 h2 => by
  rw [<- keepB_iff h1 (fun x hx => (h2 x hx).1) hsh.1, kG, decide_eq_true_eq]
 have hlt : ∀ i j, i < j -> j < (allL b.room.toNat b.months.length).length -> cmpL ((allL b.room.toNat b.months.length).getD i default) ((allL b.room.toNat b.months.length).getD j default) < 0 := fun i j h1 h2 => allL_lt h1 h2
 have hidx : valM b share b.months.length (zn b).toNat ≠ -1 -> ∃ j, j < (allL b.room.toNat b.months.length).length /\ (allL b.room.toNat b.months.length).getD j default = zV b share b.months.length (zn b).toNat := fun h => by
  refine mem_getD (qu.2 ⟨okP_len (hmax.1 h).1, fun x hx => by have := hpb.1 x hx; omega⟩)
 unfold zba
 generalize valM b share b.months.length (zn b).toNat = V at hmax hidx
 generalize zV b share b.months.length (zn b).toNat = pl at hmax hpb hidx
 generalize allL b.room.toNat b.months.length = A at hpl hal hpw hlm hlt hidx
 have hAl : ((A.map lsA).length : Int) = A.length := by rw [List.length_map]
 have hen := fun (xs : List Int) h1 h2 => ends_c b ok false xs h1 h2
 -- the law, without memory: what is kept so far
 obtain ⟨Inv, hI0, hIS, hIE⟩ : ∃ Inv : Nat -> AV -> Int -> Prop, Inv 0 (.sl true []) (-1) /\
   (∀ i v m, i < A.length -> Inv i v m -> -1 <= m /\ v.low 0 = true /\
    ((¬ (m < (A.getD i default).sum /\ share <= endP b (A.getD i default) b.months.length (zn b).toNat)) -> Inv (i + 1) v m) /\
    (m < (A.getD i default).sum -> share <= endP b (A.getD i default) b.months.length (zn b).toNat -> Inv (i + 1) (lsA (A.getD i default)) (A.getD i default).sum)) /\
   (∀ v m, Inv A.length v m -> v = if V = -1 then .sl true [] else .sl false (ints pl)) := by
  by_cases hv : V = -1
  ·refine ⟨fun i v m => v = .sl true [] /\ m = -1, ⟨rfl, rfl⟩, fun i v m hi h => ?_, fun v m h => by rw [if_pos hv]; exact h.1⟩
   obtain ⟨rfl, rfl⟩ := h
   obtain ⟨h1, h2⟩ := hlm i hi
   refine ⟨Int.le_refl _, rfl, fun _ => ⟨rfl, rfl⟩, fun _ h3 => ?_⟩
   exact absurd hv (hmax.2 _ ((hkp _ h1 h2).1 h3)).1
  ·obtain ⟨j, hj, hje⟩ := hidx hv
   obtain ⟨hk1, hk2⟩ := hmax.1 hv
   have hj2 := hlm j hj
   have hv0 : -1 < V := by
    rw [<- hk2]
    have : ∀ xs : List Int, (∀ x ∈ xs, 0 <= x /\ x <= b.room) -> 0 <= xs.sum := fun xs h => by
     have := vT h r2 xs.length (Nat.le_refl _)
     rw [List.take_length] at this; exact this.1
    have := this pl (fun x hx => hpb.1 x hx); omega
   refine ⟨fun i v m => -1 <= m /\ v.low 0 = true /\ (i <= j -> m < V) /\ (j < i -> m = V /\ v = .sl false (ints pl)), ⟨Int.le_refl _, rfl, fun _ => hv0, fun h => by omega⟩, fun i v m hi h => ?_, fun v m h => by rw [if_neg hv]; exact (h.2.2.2 hj).2⟩
   obtain ⟨q1, q2, q3, q4⟩ := h
   obtain ⟨h1, h2⟩ := hlm i hi
   have hs0 : 0 <= (A.getD i default).sum := by
    have := vT h2 r2 (A.getD i default).length (Nat.le_refl _)
    rw [List.take_length] at this; exact this.1
   refine ⟨q1, q2, fun hno => ⟨q1, q2, fun hij => q3 (by omega), fun hij => ?_⟩, fun h3 h4 => ?_⟩
   ·by_cases he : i = j
    ·exfalso
     subst he
     rw [hje] at hno
     exact hno ⟨by rw [hk2]; exact q3 (Nat.le_refl _), (hkp pl (by rw [<- hje]; exact hj2.1) (fun x hx => hpb.1 x hx)).2 hk1⟩
    ·exact q4 (by omega)
   ·obtain ⟨p1, p2, p3⟩ := hmax.2 _ ((hkp _ h1 h2).1 h4)
    refine ⟨by omega, lsA_low _, fun hij => ?_, fun hij => ?_⟩
    ·rcases Int.lt_or_eq_of_le p2 with h | h
     ·exact h
     ·have := hlt i j (by omega) hj
      rw [hje] at this
      have := p3 h; omega
    ·by_cases he : i = j
     ·subst he; rw [hje]; exact ⟨hk2, rfl⟩
     ·have := (q4 (by omega)).1; omega
 clear hmax hidx hlt
 refine Comp.body (T := tab) (res := [.tmp 4]) zb [] Tryz.func202 rfl (by kernel_rfl) Tryz.ntmps202 rfl (by simp only [List.length_cons, List.length_nil]; decide) (by simp only [lowL, bedL, AV.low]; rfl) ?_; conv => whnf
 repeat' ((refine za.ret hpl ?_); conv => whnf)
 refine Walk.loopK zb [] [(1, _), (2, _), (5, _)] ⟨rfl, rfl, rfl, trivial⟩ (fun q : Nat × AV × Int => q.1 <= A.length /\ Inv q.1 q.2.1 q.2.2) (fun q => [(6, q.2.1), (7, .int .i64 q.2.2), (8, natA q.1)]) (fun _ => []) (fun q => A.length - q.1) (0, .sl true [], -1) ⟨Nat.zero_le _, hI0⟩ rfl ⟨rfl, rfl, rfl, trivial⟩ ?_
 rintro ⟨i, v, m⟩ ⟨hi, hI⟩
 dsimp only at hi hI ⊢
 conv => whnf
 by_cases hlt : i < A.length
 ·obtain ⟨s1, s2, s3, s4⟩ := hIS i v m hlt hI
  obtain ⟨h1, h2⟩ := hlm i hlt
  have hei := hen _ h1 h2
  have hil : ((ints (A.getD i default)).length : Int) = b.months.length := by rw [zm]; omega
  generalize hE : endP b (A.getD i default) b.months.length (zn b).toNat = e at s3 s4 hei
  have hng := negR_ge (e := e) hsh.1
  repeat' ((with_reducible first | refine XBr.y fun h => ?_ | refine XBr.n fun h => ?_ | refine XBr.dec (fun h => ?_) fun h => ?_) <;> conv => whnf)
  refine Walk.loopK zb [] [(1, _), (2, _), (5, _), (6, _), (7, _), (8, _)] ⟨rfl, rfl, rfl, rfl, rfl, rfl, trivial⟩ (fun j : Nat => j <= b.months.length) (fun j => [(9, .int .i64 ((A.getD i default).take j).sum), (10, natA j)]) (fun _ => []) (fun j => b.months.length - j) 0 (Nat.zero_le _) rfl ⟨rfl, rfl, trivial⟩ ?_
  intro j hj
  have hsb := vT h2 r2 j (by omega)
  conv => whnf
  by_cases hltj : j < b.months.length
  ·have hts := za7 (xs := A.getD i default) (m := j) (by omega)
   have hsb2 := vT h2 r2 (j + 1) (by omega)
   have hgm := h2 _ (zB (d := default) (show j < (A.getD i default).length by omega))
   generalize ((A.getD i default).take j).sum = sm at hsb hts
   repeat' first | ((with_reducible first | refine XBr.y fun h => ?_ | refine XBr.n fun h => ?_ | refine XBr.dec (fun h => ?_) fun h => ?_ | refine XInt.a ?_) <;> conv => whnf) | (refine XIx.a ?_; conv => whnf) | fail
   exact zk.go (j + 1) (by omega) (by omega) rfl ⟨rfl, rfl, rfl, rfl, rfl, rfl, congrArg (fun z => some (AV.int .i64 z)) hts.symm, rfl, trivial⟩
  ·obtain rfl : j = b.months.length := by omega
   rw [List.take_of_length_le (by omega : (A.getD i default).length <= b.months.length)] at hsb ⊢
   by_cases hms : m < (A.getD i default).sum
   ·have hbb : decide (m < (A.getD i default).sum) = true := decide_eq_true hms
    repeat' first | ((with_reducible first | refine XBr.y fun h => ?_ | refine XBr.n fun h => ?_ | refine XBr.dec (fun h => ?_) fun h => ?_) <;> conv => whnf) | (refine XIx.a ?_; conv => whnf) | fail
    apply Walk.drawX zb zg [] [] (hsK _) [_, _, .bool true, .bool true, _, _, _, _, _, _, _, _, _] (by kernel_rfl) rfl
    ·skip
     repeat' first | ((with_reducible first | apply XBr.tt | apply Chk.go | apply ChkA.go); conv => whnf) | (refine XIx.a ?_; conv => whnf) | (with_reducible first | apply XAnd.mk | exact trivial) | (exact zd.mk rfl rfl) | (exact zd.mk (congrArg AV.bool hbb) rfl) | ((refine za.ret hei ?_); conv => whnf) | fail
    ·skip
     repeat' first | ((with_reducible first | apply ChkF.go | apply ChkB.go); conv => whnf) | (with_reducible first | apply XAnd.mk | exact trivial) | fail
    conv => whnf
    repeat' first | ((with_reducible first | refine XBr.y fun h => ?_ | refine XBr.n fun h => ?_ | refine XBr.dec (fun h => ?_) fun h => ?_ | refine XInt.a ?_) <;> conv => whnf) | (refine XIx.a ?_; conv => whnf) | fail
    ·exact zk.go (i + 1, lsA (A.getD i default), (A.getD i default).sum) ⟨by dsimp only; omega, s4 hms (by omega)⟩ (by dsimp only; omega) rfl ⟨rfl, rfl, rfl, rfl, rfl, rfl, trivial⟩
    ·exact zk.go (i + 1, v, m) ⟨by dsimp only; omega, s3 (by omega)⟩ (by dsimp only; omega) rfl ⟨rfl, rfl, rfl, rfl, rfl, rfl, trivial⟩
   ·have hbb : decide (m < (A.getD i default).sum) = false := decide_eq_false hms
    repeat' first | ((with_reducible first | refine XBr.y fun h => ?_ | refine XBr.n fun h => ?_ | refine XBr.dec (fun h => ?_) fun h => ?_) <;> conv => whnf) | (refine XIx.a ?_; conv => whnf) | fail
    apply Walk.drawX zb zg [] [] (hsK _) [_, _, .bool false, .bool false, _, _, _, _, _, _, _, _, _] (by kernel_rfl) rfl
    ·skip
     repeat' first | ((with_reducible first | apply XBr.ff | apply Chk.go | apply ChkA.go); conv => whnf) | (with_reducible first | apply XAnd.mk | exact trivial) | (exact zd.mk rfl rfl) | (exact zd.mk (congrArg AV.bool hbb) rfl) | fail
    ·skip
     repeat' first | ((with_reducible first | apply ChkF.go | apply ChkB.go); conv => whnf) | (with_reducible first | apply XAnd.mk | exact trivial) | fail
    conv => whnf
    repeat' ((with_reducible first | apply XBr.ff | refine XInt.a ?_); conv => whnf)
    exact zk.go (i + 1, v, m) ⟨by dsimp only; omega, s3 (by omega)⟩ (by dsimp only; omega) rfl ⟨rfl, rfl, rfl, rfl, rfl, rfl, trivial⟩
 ·obtain rfl : i = A.length := by omega
  obtain rfl := hIE _ _ hI
  repeat' ((with_reducible first | refine XBr.y fun h => ?_ | refine XBr.n fun h => ?_ | refine XBr.dec (fun h => ?_) fun h => ?_) <;> conv => whnf)
  refine ⟨.low ?_⟩
  show AV.low 0 (if V = -1 then _ else _) = true
  split
  ·rfl
  ·exact lowI _
end GA
end
section
namespace GA
open Go Go.RowKit Go.Proofs
theorem jC {b c : Bd} (hr : b.room = c.room) (hm : b.months = c.months) (m n : Nat) : lieR b m n = lieR c m n := by unfold lieR; rw [hr, hm]
theorem jv {b c : Bd} (hr : b.room = c.room) (hm : b.months = c.months) (share : Int) : ∀ k, valM b share k = valM c share k
 | 0 => rfl
 | k + 1 => by
   funext a
   unfold valM
   rw [hm, jC hr hm, jv hr hm share k]
theorem wI {b c : Bd} (hr : b.room = c.room) (hm : b.months = c.months) (share : Int) : ∀ k a, zV b share k a = zV c share k a
 | 0, _ => rfl
 | k + 1, a => by
   unfold zV
   rw [hm, jC hr hm, jv hr hm share k, jv hr hm share (k + 1)]
   simp only [wI hr hm share k]
theorem w4 {b c : Bd} (hr : b.room = c.room) (hm : b.months = c.months) (hl : zn b = zn c) (share : Int) : ∀ n, kA b share n = kA c share n
 | 0 => rfl
 | n + 1 => by
   have h1 : j6 b (List.replicate b.months.length (n : Int)) share = j6 c (List.replicate c.months.length (n : Int)) share := by
    rw [kG, kG, kV hr hm, hm, hl]
   rw [fV, fV]
   unfold kpB
   rw [h1, w4 hr hm hl share n]
theorem zdN (b : Bd) (share : Int) : ∃ d, yH b share = .tup [d, .int .i64 (zC b share)] /\ d.low 0 = true := by
 unfold yH
 refine ⟨_, rfl, ?_⟩
 split
 ·exact dskL b
 ·rfl
theorem mostE_c (b : Bd) (share : Int) (hm : b.months.length <= 100000) (hs : b.surveys.length <= 100000) (hE : zC b share ≠ 0) : Comp Tryz.prog 19 [bedA b, .int .i64 share] (.tup [.sl true [], .int .i64 (zC b share)]) := by
 have hsh := wk b share hm hs
 obtain ⟨d, hd, hd2⟩ := zdN b share
 rw [hd] at hsh
 generalize zC b share = e at hsh hE
 refine Comp.body (T := tab) (res := [.tmp 4, .tmp 5]) zb [] Tryz.func19 rfl (by kernel_rfl) Tryz.ntmps19 rfl (by simp only [List.length_cons, List.length_nil]; decide) (by simp only [lowL, bedL, AV.low]; rfl) ?_; conv => whnf
 repeat' first | ((with_reducible first | refine XBr.y2 fun h => ?_ | refine XBr.n2 fun h => ?_ | refine XBr.bne (fun h => ?_) fun h => ?_) <;> conv => whnf) | ((refine za.ret hsh ?_); conv => whnf) | fail
 exact ⟨.low rfl⟩
set_option maxHeartbeats 2000000 in
theorem bedMost_c (b : Bd) (share : Int) : Comp Tryz.prog 97 [bedA b, .int .i64 share] (.bool true) := by
 have hgr := kK b
 have hwi := vR b 12 3 8
 cases hg : kE b
 case true =>
  refine Comp.body (T := tab) (res := [.tmp 4]) zb [] Tryz.func97 rfl (by kernel_rfl) Tryz.ntmps97 rfl (by simp only [List.length_cons, List.length_nil]; decide) (by simp only [lowL, bedL, AV.low]; rfl) ?_; conv => whnf
  repeat' first | ((first | (with_reducible apply XBr.tt) | ((refine za.ret hgr ?_); rw [hg]) | (refine za.ret zr ?_)); conv => whnf) | fail
  exact ⟨.low rfl⟩
 by_cases hw : 12 < b.room /\ b.room <= 120 \/ (3 : Int) < b.months.length /\ (b.months.length : Int) <= 10 \/ (8 : Int) < b.surveys.length /\ (b.surveys.length : Int) <= 8
 ·rw [decide_eq_true hw] at hwi
  refine Comp.body (T := tab) (res := [.tmp 4]) zb [] Tryz.func97 rfl (by kernel_rfl) Tryz.ntmps97 rfl (by simp only [List.length_cons, List.length_nil]; decide) (by simp only [lowL, bedL, AV.low]; rfl) ?_; conv => whnf
  repeat' first | ((first | (with_reducible first | apply XBr.tt | apply XBr.ff) | ((refine za.ret hgr ?_); rw [hg]) | (first | refine za.ret hwi ?_ | refine za.ret zr ?_)); conv => whnf) | fail
  exact ⟨.low rfl⟩
 rw [decide_eq_false hw] at hwi
 obtain ⟨g1, g2⟩ := kO.1 hg
 have hs1 : (ownB b).months.length <= 100000 := show b.months.length <= 100000 by omega
 have hs2 : (ownB b).surveys.length <= 100000 := show b.surveys.length <= 100000 by omega
 have how := wv b (by omega) (by omega)
 have hth := kq b (by omega) (by omega)
 have hck := yd (thB b) hs1 hs2
 change Comp Tryz.prog _ _ (.int .i64 (bedE b)) at hck
 have hsa := jL b (by omega) (by omega)
 have hev := even_c (ownB b) share hs1 hs2
 have hEv : gB (ownB b) share = gB b share := by
  unfold gB
  rw [w4 (b := ownB b) (c := b) rfl rfl rfl]; rfl
 rw [hEv] at hev
 unfold gB at hev
 by_cases hE : zC b share = 0
 ·obtain ⟨ok, hsh⟩ := yx.1 hE
  have hb : bedE b = 0 := (zz b).2 ok
  have r2 := ok.r2
  have m2 := ok.m2
  rw [hb] at hck
  rw [if_neg (fun h => h hE)] at hev
  have tok : BedOk (thB b) := ⟨ok.r1, ok.r2, ok.m1, ok.m2, ok.f1, ok.f2, ok.u1, ok.u2, ok.mo⟩
  have hrm := refMost_c (thB b) tok share hsh (show b.room <= 12 by omega) (show b.months.length <= 3 by omega)
  have hre := refEven_c (thB b) tok share hsh
  rw [w4 (b := thB b) (c := b) rfl rfl rfl] at hre
  change Comp Tryz.prog _ _ (.int .i64 (kA b share (b.room.toNat + 1))) at hre
  have hmo := mostS_c (ownB b) share hb hsh
  have hM1 : zaj (ownB b) share = zaj b share := by unfold zaj; rw [jv (b := ownB b) (c := b) rfl rfl, wI (b := ownB b) (c := b) rfl rfl]; rfl
  have hM2 : zba (thB b) share = zba b share := by unfold zba; rw [jv (b := thB b) (c := b) rfl rfl, wI (b := thB b) (c := b) rfl rfl]; rfl
  rw [hM1] at hmo
  rw [hM2] at hrm
  unfold zaj at hmo
  unfold zba at hrm
  have hpl := w0 ok.toBedOk share b.months.length (Nat.le_refl _) (zn b).toNat
  generalize kA b share (b.room.toNat + 1) = ev at hev hre
  by_cases hv : valM b share b.months.length (zn b).toNat = -1
  ·rw [if_pos hv] at hmo hrm
   have heq : Comp Tryz.prog 46 [.sl true (ints []), .sl true (ints [])] (.bool true) := kL true true [] [] (by simp)
   by_cases he : ev < 0
   ·rw [if_pos he] at hev
    refine Comp.body (T := tab) (res := [.tmp 4]) zb [] Tryz.func97 rfl (by kernel_rfl) Tryz.ntmps97 rfl (by simp only [List.length_cons, List.length_nil]; decide) (by simp only [lowL, bedL, AV.low]; rfl) ?_; conv => whnf
    repeat' first | ((first | (with_reducible apply XBr.ff) | ((refine za.ret hgr ?_); rw [hg]) | (refine za.ret hwi ?_)); conv => whnf) | fail
    refine Walk.place (Walk.place ?_)
    apply Walk.drawX zb zg [] [4, 5, 6, 7] (fun fl => match fl with
     | [a, b', x, y] => [(bif a then .cells (bif x then bedC (ownB b) else bzero) else .free), (bif b' then .cells (bif y then bedC (thB b) else bzero) else .free)]
     | _ => []) [_, _, _, _, .ptr 0 0, .ptr 1 0, _, _] (by kernel_rfl) rfl
    ·skip
     repeat' first | ((with_reducible first | apply Chk.go | apply ChkA.go); conv => whnf) | (with_reducible first | apply XAnd.mk | exact trivial) | (exact zd.mk rfl rfl) | ((first | refine za.ret how ?_ | refine za.ret hth ?_); conv => whnf) | (first | ((refine zq.at 0 rfl ?_); (conv => whnf); exact zd.mk rfl rfl) | ((refine zq.at 1 rfl ?_); (conv => whnf); exact zd.mk rfl rfl)) | fail
    ·skip
     repeat' first | ((with_reducible first | apply Chk.go | apply ChkF.go | apply ChkB.go); conv => whnf) | (with_reducible first | apply XAnd.mk | exact trivial) | (exact zd.mk rfl rfl) | ((first | refine za.ret how ?_ | refine za.ret hth ?_); conv => whnf) | (first | ((refine zq.at 0 rfl ?_); (conv => whnf); exact zd.mk rfl rfl) | ((refine zq.at 1 rfl ?_); (conv => whnf); exact zd.mk rfl rfl)) | fail
    conv => whnf
    repeat' first | ((with_reducible first | apply XBr.tt | apply XBr.ff | refine XBr.y fun h => ?_ | refine XBr.n fun h => ?_ | refine XBr.dec (fun h => ?_) fun h => ?_ | refine XBr.y1 fun h => ?_ | refine XBr.n1 fun h => ?_ | refine XBr.beq (fun h => ?_) fun h => ?_) <;> conv => whnf) | ((first | refine za.ret hck ?_ | refine za.ret hrm ?_ | refine za.ret hre ?_ | refine za.ret hmo ?_ | refine za.ret hev ?_); conv => whnf) | fail
    all_goals
     refine Walk.norm zb [] [(2, _), (4, _), (5, _), (6, _), (7, _), (8, _), (9, _), (10, _), (11, _), (12, _), (13, _), (14, _)] ⟨rfl, rfl, rfl, rfl, rfl, rfl, rfl, rfl, rfl, rfl, rfl, rfl, trivial⟩ ?_
     conv => whnf
     repeat' first | ((with_reducible first | apply XBr.tt | refine XBr.y1 fun h => ?_ | refine XBr.n1 fun h => ?_ | refine XBr.beq (fun h => ?_) fun h => ?_) <;> conv => whnf) | ((first | refine za.ret heq ?_ | refine za.ret hsa ?_ | refine za.ret zr ?_); conv => whnf) | fail
    all_goals first | exact ⟨.low rfl⟩ | (exfalso; omega) | (exfalso; simp at h; done)
   ·rw [if_neg he] at hev
    refine Comp.body (T := tab) (res := [.tmp 4]) zb [] Tryz.func97 rfl (by kernel_rfl) Tryz.ntmps97 rfl (by simp only [List.length_cons, List.length_nil]; decide) (by simp only [lowL, bedL, AV.low]; rfl) ?_; conv => whnf
    repeat' first | ((first | (with_reducible apply XBr.ff) | ((refine za.ret hgr ?_); rw [hg]) | (refine za.ret hwi ?_)); conv => whnf) | fail
    refine Walk.place (Walk.place ?_)
    apply Walk.drawX zb zg [] [4, 5, 6, 7] (fun fl => match fl with
     | [a, b', x, y] => [(bif a then .cells (bif x then bedC (ownB b) else bzero) else .free), (bif b' then .cells (bif y then bedC (thB b) else bzero) else .free)]
     | _ => []) [_, _, _, _, .ptr 0 0, .ptr 1 0, _, _] (by kernel_rfl) rfl
    ·skip
     repeat' first | ((with_reducible first | apply Chk.go | apply ChkA.go); conv => whnf) | (with_reducible first | apply XAnd.mk | exact trivial) | (exact zd.mk rfl rfl) | ((first | refine za.ret how ?_ | refine za.ret hth ?_); conv => whnf) | (first | ((refine zq.at 0 rfl ?_); (conv => whnf); exact zd.mk rfl rfl) | ((refine zq.at 1 rfl ?_); (conv => whnf); exact zd.mk rfl rfl)) | fail
    ·skip
     repeat' first | ((with_reducible first | apply Chk.go | apply ChkF.go | apply ChkB.go); conv => whnf) | (with_reducible first | apply XAnd.mk | exact trivial) | (exact zd.mk rfl rfl) | ((first | refine za.ret how ?_ | refine za.ret hth ?_); conv => whnf) | (first | ((refine zq.at 0 rfl ?_); (conv => whnf); exact zd.mk rfl rfl) | ((refine zq.at 1 rfl ?_); (conv => whnf); exact zd.mk rfl rfl)) | fail
    conv => whnf
    repeat' first | ((with_reducible first | apply XBr.tt | apply XBr.ff | refine XBr.y fun h => ?_ | refine XBr.n fun h => ?_ | refine XBr.dec (fun h => ?_) fun h => ?_ | refine XBr.y1 fun h => ?_ | refine XBr.n1 fun h => ?_ | refine XBr.beq (fun h => ?_) fun h => ?_) <;> conv => whnf) | ((first | refine za.ret hck ?_ | refine za.ret hrm ?_ | refine za.ret hre ?_ | refine za.ret hmo ?_ | refine za.ret hev ?_); conv => whnf) | fail
    all_goals
     refine Walk.norm zb [] [(2, _), (4, _), (5, _), (6, _), (7, _), (8, _), (9, _), (10, _), (11, _), (12, _), (13, _), (14, _)] ⟨rfl, rfl, rfl, rfl, rfl, rfl, rfl, rfl, rfl, rfl, rfl, rfl, trivial⟩ ?_
     conv => whnf
     repeat' first | ((with_reducible first | apply XBr.tt | refine XBr.y1 fun h => ?_ | refine XBr.n1 fun h => ?_ | refine XBr.beq (fun h => ?_) fun h => ?_) <;> conv => whnf) | ((first | refine za.ret heq ?_ | refine za.ret hsa ?_ | refine za.ret zr ?_); conv => whnf) | fail
    all_goals first | exact ⟨.low rfl⟩ | (exfalso; omega) | (exfalso; simp at h; done)
  ·rw [if_neg hv] at hmo hrm
   generalize zV b share b.months.length (zn b).toNat = pl at hmo hrm hpl
   have heq := kL pl.isEmpty false pl pl (by omega)
   rw [beq_self_eq_true] at heq
   by_cases he : ev < 0
   ·rw [if_pos he] at hev
    refine Comp.body (T := tab) (res := [.tmp 4]) zb [] Tryz.func97 rfl (by kernel_rfl) Tryz.ntmps97 rfl (by simp only [List.length_cons, List.length_nil]; decide) (by simp only [lowL, bedL, AV.low]; rfl) ?_; conv => whnf
    repeat' first | ((first | (with_reducible apply XBr.ff) | ((refine za.ret hgr ?_); rw [hg]) | (refine za.ret hwi ?_)); conv => whnf) | fail
    refine Walk.place (Walk.place ?_)
    apply Walk.drawX zb zg [] [4, 5, 6, 7] (fun fl => match fl with
     | [a, b', x, y] => [(bif a then .cells (bif x then bedC (ownB b) else bzero) else .free), (bif b' then .cells (bif y then bedC (thB b) else bzero) else .free)]
     | _ => []) [_, _, _, _, .ptr 0 0, .ptr 1 0, _, _] (by kernel_rfl) rfl
    ·skip
     repeat' first | ((with_reducible first | apply Chk.go | apply ChkA.go); conv => whnf) | (with_reducible first | apply XAnd.mk | exact trivial) | (exact zd.mk rfl rfl) | ((first | refine za.ret how ?_ | refine za.ret hth ?_); conv => whnf) | (first | ((refine zq.at 0 rfl ?_); (conv => whnf); exact zd.mk rfl rfl) | ((refine zq.at 1 rfl ?_); (conv => whnf); exact zd.mk rfl rfl)) | fail
    ·skip
     repeat' first | ((with_reducible first | apply Chk.go | apply ChkF.go | apply ChkB.go); conv => whnf) | (with_reducible first | apply XAnd.mk | exact trivial) | (exact zd.mk rfl rfl) | ((first | refine za.ret how ?_ | refine za.ret hth ?_); conv => whnf) | (first | ((refine zq.at 0 rfl ?_); (conv => whnf); exact zd.mk rfl rfl) | ((refine zq.at 1 rfl ?_); (conv => whnf); exact zd.mk rfl rfl)) | fail
    conv => whnf
    repeat' first | ((with_reducible first | apply XBr.tt | apply XBr.ff | refine XBr.y fun h => ?_ | refine XBr.n fun h => ?_ | refine XBr.dec (fun h => ?_) fun h => ?_ | refine XBr.y1 fun h => ?_ | refine XBr.n1 fun h => ?_ | refine XBr.beq (fun h => ?_) fun h => ?_) <;> conv => whnf) | ((first | refine za.ret hck ?_ | refine za.ret hrm ?_ | refine za.ret hre ?_ | refine za.ret hmo ?_ | refine za.ret hev ?_); conv => whnf) | fail
    all_goals
     refine Walk.norm zb [] [(2, _), (4, _), (5, _), (6, _), (7, _), (8, _), (9, _), (10, _), (11, _), (12, _), (13, _), (14, _)] ⟨rfl, rfl, rfl, rfl, rfl, rfl, rfl, rfl, rfl, rfl, rfl, rfl, trivial⟩ ?_
     conv => whnf
     repeat' first | ((with_reducible first | apply XBr.tt | refine XBr.y1 fun h => ?_ | refine XBr.n1 fun h => ?_ | refine XBr.beq (fun h => ?_) fun h => ?_) <;> conv => whnf) | ((first | refine za.ret heq ?_ | refine za.ret hsa ?_ | refine za.ret zr ?_); conv => whnf) | fail
    all_goals first | exact ⟨.low rfl⟩ | (exfalso; omega) | (exfalso; simp at h; done)
   ·rw [if_neg he] at hev
    refine Comp.body (T := tab) (res := [.tmp 4]) zb [] Tryz.func97 rfl (by kernel_rfl) Tryz.ntmps97 rfl (by simp only [List.length_cons, List.length_nil]; decide) (by simp only [lowL, bedL, AV.low]; rfl) ?_; conv => whnf
    repeat' first | ((first | (with_reducible apply XBr.ff) | ((refine za.ret hgr ?_); rw [hg]) | (refine za.ret hwi ?_)); conv => whnf) | fail
    refine Walk.place (Walk.place ?_)
    apply Walk.drawX zb zg [] [4, 5, 6, 7] (fun fl => match fl with
     | [a, b', x, y] => [(bif a then .cells (bif x then bedC (ownB b) else bzero) else .free), (bif b' then .cells (bif y then bedC (thB b) else bzero) else .free)]
     | _ => []) [_, _, _, _, .ptr 0 0, .ptr 1 0, _, _] (by kernel_rfl) rfl
    ·skip
     repeat' first | ((with_reducible first | apply Chk.go | apply ChkA.go); conv => whnf) | (with_reducible first | apply XAnd.mk | exact trivial) | (exact zd.mk rfl rfl) | ((first | refine za.ret how ?_ | refine za.ret hth ?_); conv => whnf) | (first | ((refine zq.at 0 rfl ?_); (conv => whnf); exact zd.mk rfl rfl) | ((refine zq.at 1 rfl ?_); (conv => whnf); exact zd.mk rfl rfl)) | fail
    ·skip
     repeat' first | ((with_reducible first | apply Chk.go | apply ChkF.go | apply ChkB.go); conv => whnf) | (with_reducible first | apply XAnd.mk | exact trivial) | (exact zd.mk rfl rfl) | ((first | refine za.ret how ?_ | refine za.ret hth ?_); conv => whnf) | (first | ((refine zq.at 0 rfl ?_); (conv => whnf); exact zd.mk rfl rfl) | ((refine zq.at 1 rfl ?_); (conv => whnf); exact zd.mk rfl rfl)) | fail
    conv => whnf
    repeat' first | ((with_reducible first | apply XBr.tt | apply XBr.ff | refine XBr.y fun h => ?_ | refine XBr.n fun h => ?_ | refine XBr.dec (fun h => ?_) fun h => ?_ | refine XBr.y1 fun h => ?_ | refine XBr.n1 fun h => ?_ | refine XBr.beq (fun h => ?_) fun h => ?_) <;> conv => whnf) | ((first | refine za.ret hck ?_ | refine za.ret hrm ?_ | refine za.ret hre ?_ | refine za.ret hmo ?_ | refine za.ret hev ?_); conv => whnf) | fail
    all_goals
     refine Walk.norm zb [] [(2, _), (4, _), (5, _), (6, _), (7, _), (8, _), (9, _), (10, _), (11, _), (12, _), (13, _), (14, _)] ⟨rfl, rfl, rfl, rfl, rfl, rfl, rfl, rfl, rfl, rfl, rfl, rfl, trivial⟩ ?_
     conv => whnf
     repeat' first | ((with_reducible first | apply XBr.tt | refine XBr.y1 fun h => ?_ | refine XBr.n1 fun h => ?_ | refine XBr.beq (fun h => ?_) fun h => ?_) <;> conv => whnf) | ((first | refine za.ret heq ?_ | refine za.ret hsa ?_ | refine za.ret zr ?_); conv => whnf) | fail
    all_goals first | exact ⟨.low rfl⟩ | (exfalso; omega) | (exfalso; simp at h; done)
 ·rw [if_pos hE] at hev
  have hmo := mostE_c (ownB b) share hs1 hs2 hE
  change Comp Tryz.prog _ _ (.tup [.sl true [], .int .i64 (zC b share)]) at hmo
  have heq : Comp Tryz.prog 46 [.sl true (ints []), .sl true (ints [])] (.bool true) := kL true true [] [] (by simp)
  have hrm : True := trivial
  have hre : True := trivial
  by_cases hb : bedE b = 0
  ·have hE3 : zC b share = 3 := by
    unfold zC at hE ⊢
    rw [if_neg (fun h => h hb)] at hE ⊢
    split
    ·rfl
    ·rename_i h; rw [if_neg h] at hE; exact absurd rfl hE
   have hns : ¬ (0 <= share /\ share <= b.room) := fun h => hE (yx.2 ⟨(zz b).1 hb, h⟩)
   rw [hE3] at hev hmo
   rw [hb] at hck
   refine Comp.body (T := tab) (res := [.tmp 4]) zb [] Tryz.func97 rfl (by kernel_rfl) Tryz.ntmps97 rfl (by simp only [List.length_cons, List.length_nil]; decide) (by simp only [lowL, bedL, AV.low]; rfl) ?_; conv => whnf
   repeat' first | ((first | (with_reducible apply XBr.ff) | ((refine za.ret hgr ?_); rw [hg]) | (refine za.ret hwi ?_)); conv => whnf) | fail
   refine Walk.place (Walk.place ?_)
   apply Walk.drawX zb zg [] [4, 5, 6, 7] (fun fl => match fl with
    | [a, b', x, y] => [(bif a then .cells (bif x then bedC (ownB b) else bzero) else .free), (bif b' then .cells (bif y then bedC (thB b) else bzero) else .free)]
    | _ => []) [_, _, _, _, .ptr 0 0, .ptr 1 0, _, _] (by kernel_rfl) rfl
   ·skip
    repeat' first | ((with_reducible first | apply Chk.go | apply ChkA.go); conv => whnf) | (with_reducible first | apply XAnd.mk | exact trivial) | (exact zd.mk rfl rfl) | ((first | refine za.ret how ?_ | refine za.ret hth ?_); conv => whnf) | (first | ((refine zq.at 0 rfl ?_); (conv => whnf); exact zd.mk rfl rfl) | ((refine zq.at 1 rfl ?_); (conv => whnf); exact zd.mk rfl rfl)) | fail
   ·skip
    repeat' first | ((with_reducible first | apply Chk.go | apply ChkF.go | apply ChkB.go); conv => whnf) | (with_reducible first | apply XAnd.mk | exact trivial) | (exact zd.mk rfl rfl) | ((first | refine za.ret how ?_ | refine za.ret hth ?_); conv => whnf) | (first | ((refine zq.at 0 rfl ?_); (conv => whnf); exact zd.mk rfl rfl) | ((refine zq.at 1 rfl ?_); (conv => whnf); exact zd.mk rfl rfl)) | fail
   conv => whnf
   repeat' first | ((with_reducible first | apply XBr.tt | apply XBr.ff | refine XBr.y fun h => ?_ | refine XBr.n fun h => ?_ | refine XBr.dec (fun h => ?_) fun h => ?_ | refine XBr.y1 fun h => ?_ | refine XBr.n1 fun h => ?_ | refine XBr.beq (fun h => ?_) fun h => ?_) <;> conv => whnf) | ((first | refine za.ret hck ?_ | refine za.ret hmo ?_ | refine za.ret hev ?_); conv => whnf) | fail
   all_goals
    refine Walk.norm zb [] [(2, _), (4, _), (5, _), (6, _), (7, _), (8, _), (9, _), (10, _), (11, _), (12, _), (13, _), (14, _)] ⟨rfl, rfl, rfl, rfl, rfl, rfl, rfl, rfl, rfl, rfl, rfl, rfl, trivial⟩ ?_
    conv => whnf
    repeat' first | ((with_reducible first | apply XBr.tt | refine XBr.y1 fun h => ?_ | refine XBr.n1 fun h => ?_ | refine XBr.beq (fun h => ?_) fun h => ?_) <;> conv => whnf) | ((first | refine za.ret heq ?_ | refine za.ret hsa ?_ | refine za.ret zr ?_); conv => whnf) | fail
   all_goals first | exact ⟨.low rfl⟩ | (exfalso; omega) | (exfalso; simp at h; done)
  ·have hE4 : zC b share = bedE b := by unfold zC; rw [if_pos hb]
   rw [hE4] at hev hmo
   generalize bedE b = E at hb hck hev hmo
   refine Comp.body (T := tab) (res := [.tmp 4]) zb [] Tryz.func97 rfl (by kernel_rfl) Tryz.ntmps97 rfl (by simp only [List.length_cons, List.length_nil]; decide) (by simp only [lowL, bedL, AV.low]; rfl) ?_; conv => whnf
   repeat' first | ((first | (with_reducible apply XBr.ff) | ((refine za.ret hgr ?_); rw [hg]) | (refine za.ret hwi ?_)); conv => whnf) | fail
   refine Walk.place (Walk.place ?_)
   apply Walk.drawX zb zg [] [4, 5, 6, 7] (fun fl => match fl with
    | [a, b', x, y] => [(bif a then .cells (bif x then bedC (ownB b) else bzero) else .free), (bif b' then .cells (bif y then bedC (thB b) else bzero) else .free)]
    | _ => []) [_, _, _, _, .ptr 0 0, .ptr 1 0, _, _] (by kernel_rfl) rfl
   ·skip
    repeat' first | ((with_reducible first | apply Chk.go | apply ChkA.go); conv => whnf) | (with_reducible first | apply XAnd.mk | exact trivial) | (exact zd.mk rfl rfl) | ((first | refine za.ret how ?_ | refine za.ret hth ?_); conv => whnf) | (first | ((refine zq.at 0 rfl ?_); (conv => whnf); exact zd.mk rfl rfl) | ((refine zq.at 1 rfl ?_); (conv => whnf); exact zd.mk rfl rfl)) | fail
   ·skip
    repeat' first | ((with_reducible first | apply Chk.go | apply ChkF.go | apply ChkB.go); conv => whnf) | (with_reducible first | apply XAnd.mk | exact trivial) | (exact zd.mk rfl rfl) | ((first | refine za.ret how ?_ | refine za.ret hth ?_); conv => whnf) | (first | ((refine zq.at 0 rfl ?_); (conv => whnf); exact zd.mk rfl rfl) | ((refine zq.at 1 rfl ?_); (conv => whnf); exact zd.mk rfl rfl)) | fail
   conv => whnf
   repeat' first | ((with_reducible first | apply XBr.ff | refine XBr.y1 fun h => ?_ | refine XBr.n1 fun h => ?_ | refine XBr.beq (fun h => ?_) fun h => ?_) <;> conv => whnf) | ((first | refine za.ret hck ?_ | refine za.ret hmo ?_ | refine za.ret hev ?_); conv => whnf) | fail
   all_goals
    refine Walk.norm zb [] [(2, _), (4, _), (5, _), (6, _), (7, _), (8, _), (9, _), (10, _), (11, _), (12, _), (13, _), (14, _)] ⟨rfl, rfl, rfl, rfl, rfl, rfl, rfl, rfl, rfl, rfl, rfl, rfl, trivial⟩ ?_
    conv => whnf
    repeat' first | ((with_reducible first | apply XBr.tt | refine XBr.y1 fun h => ?_ | refine XBr.n1 fun h => ?_ | refine XBr.beq (fun h => ?_) fun h => ?_) <;> conv => whnf) | ((first | refine za.ret heq ?_ | refine za.ret hsa ?_ | refine za.ret zr ?_); conv => whnf) | fail
   all_goals first | exact ⟨.low rfl⟩ | (exfalso; omega) | (exfalso; simp at h; done)
end GA
end
section
namespace GA
open Go Go.RowKit Go.Proofs
set_option maxHeartbeats 2000000 in
theorem zcL (b : Bd) (month amount : Int) : Comp Tryz.prog 22 [bedA b, .int .i64 month, .int .i64 amount] (.bool true) := by
 have hgr := kK b
 have hwi := vR b 60 10 8
 cases hg : kE b
 case true =>
  refine Comp.body (T := tab) (res := [.tmp 6]) zb [] Tryz.func22 rfl (by kernel_rfl) Tryz.ntmps22 rfl (by simp only [List.length_cons, List.length_nil]; decide) (by simp only [lowL, bedL, AV.low]; rfl) ?_; conv => whnf
  repeat' first | ((first | (with_reducible apply XBr.tt) | ((refine za.ret hgr ?_); rw [hg]) | (refine za.ret zr ?_)); conv => whnf) | fail
  exact ⟨.low rfl⟩
 generalize decide (60 < b.room /\ b.room <= 120 \/ (10 : Int) < b.months.length /\ (b.months.length : Int) <= 10 \/ (8 : Int) < b.surveys.length /\ (b.surveys.length : Int) <= 8) = w at hwi
 cases w with
 | true =>
   refine Comp.body (T := tab) (res := [.tmp 6]) zb [] Tryz.func22 rfl (by kernel_rfl) Tryz.ntmps22 rfl (by simp only [List.length_cons, List.length_nil]; decide) (by simp only [lowL, bedL, AV.low]; rfl) ?_; conv => whnf
   repeat' first | ((first | (with_reducible first | apply XBr.tt | apply XBr.ff) | ((refine za.ret hgr ?_); rw [hg]) | (first | refine za.ret hwi ?_ | refine za.ret zr ?_)); conv => whnf) | fail
   exact ⟨.low rfl⟩
 | false =>
   obtain ⟨g1, g2⟩ := kO.1 hg
   have how := wv b (by omega) (by omega)
   have hth := kq b (by omega) (by omega)
   have hsa := jL b (by omega) (by omega)
   have hM : (ownB b).months.length <= 100000 := show b.months.length <= 100000 by omega
   have hS : (ownB b).surveys.length <= 100000 := show b.surveys.length <= 100000 by omega
   have hcr := refCan_c (thB b) hM hS
   have hca := can_all_c (ownB b) hM hS
   have hbo := zcZ (ownB b) hM hS
   have hlk := look_c (ownB b) hM hS
   have hco := zc4 (ownB b) hM hS (fun h => by cases h) month amount
   have hrc := zcQ (thB b) hM hS month amount
   rw [canV_own] at hca
   rw [zda] at hbo
   rw [lookA_own] at hlk
   rw [zcw] at hco
   obtain ⟨nl, R, B, K, e, f1, f2, f3, f4, f5, f6, f7, f8, f9, f10⟩ := can_form (thB b)
   rw [f1] at hca hcr
   rw [f2] at hbo
   rw [f3] at hlk
   obtain ⟨cn, c, ce, hcf, hcl⟩ := zbE (thB b) (show b.months.length <= 1000 by omega) month amount
   rw [hcf] at hco hrc
   have heq := kL cn cn c c hcl
   rw [beq_self_eq_true] at heq
   have hrw := eqRows nl nl R f7 f8
   have erl : ((yL R).length : Int) = R.length := by rw [List.length_map]
   have ebl : ((chsA B).length : Int) = R.length := by rw [List.length_map, f5]
   clear f1 f2 f3 hcf
   refine Comp.body (T := tab) (res := [.tmp 6]) zb [] Tryz.func22 rfl (by kernel_rfl) Tryz.ntmps22 rfl (by simp only [List.length_cons, List.length_nil]; decide) (by simp only [lowL, bedL, AV.low]; rfl) ?_; conv => whnf
   repeat' first | ((first | (with_reducible apply XBr.ff) | ((refine za.ret hgr ?_); rw [hg]) | (refine za.ret hwi ?_)); conv => whnf) | fail
   refine Walk.place (Walk.place ?_)
   apply Walk.drawX zb zg [] [4, 5, 6, 7] (fun fl => match fl with
    | [a, b', x, y] => [(bif a then .cells (bif x then bedC (ownB b) else bzero) else .free), (bif b' then .cells (bif y then bedC (thB b) else bzero) else .free)]
    | _ => []) [_, _, _, _, .ptr 0 0, .ptr 1 0, _, _] (by kernel_rfl) rfl
   ·skip
    repeat' first | ((with_reducible first | apply Chk.go | apply ChkA.go); conv => whnf) | (with_reducible first | apply XAnd.mk | exact trivial) | (exact zd.mk rfl rfl) | ((first | refine za.ret how ?_ | refine za.ret hth ?_); conv => whnf) | (first | ((refine zq.at 0 rfl ?_); (conv => whnf); exact zd.mk rfl rfl) | ((refine zq.at 1 rfl ?_); (conv => whnf); exact zd.mk rfl rfl)) | fail
   ·skip
    repeat' first | ((with_reducible first | apply Chk.go | apply ChkF.go | apply ChkB.go); conv => whnf) | (with_reducible first | apply XAnd.mk | exact trivial) | (exact zd.mk rfl rfl) | ((first | refine za.ret how ?_ | refine za.ret hth ?_); conv => whnf) | (first | ((refine zq.at 0 rfl ?_); (conv => whnf); exact zd.mk rfl rfl) | ((refine zq.at 1 rfl ?_); (conv => whnf); exact zd.mk rfl rfl)) | fail
   conv => whnf
   repeat' ((first | refine za.ret hcr ?_ | refine za.ret hca ?_ | refine za.ret hbo ?_ | refine za.ret hlk ?_); conv => whnf)
   refine Walk.norm zb [] [(1, _), (2, _), (3, _), (7, _), (8, _), (9, _), (10, _), (11, _), (12, _), (13, _), (14, _), (15, _), (16, _), (17, _)] ⟨rfl, rfl, rfl, rfl, rfl, rfl, rfl, rfl, rfl, rfl, rfl, rfl, rfl, rfl, trivial⟩ ?_
   conv => whnf
   repeat' first | ((with_reducible first | apply XBr.tt | apply XBr.ff | refine XBr.y2 fun h => ?_ | refine XBr.n2 fun h => ?_ | refine XBr.bne (fun h => ?_) fun h => ?_) <;> conv => whnf) | with_reducible apply XBr.not | ((refine za.ret hrw ?_); conv => whnf) | fail
   refine Walk.loopK zb [] [(1, _), (2, _), (3, _), (7, _), (8, _), (13, _), (15, _), (16, _), (82, _), (83, _)] ⟨rfl, rfl, rfl, rfl, rfl, rfl, rfl, rfl, rfl, rfl, trivial⟩ (fun i : Nat => i <= R.length) (fun i => [(18, natA (lkF (fun m => (R.getD m default).length) i).1), (19, natA (lkF (fun m => (R.getD m default).length) i).2), (84, natA i)]) (fun _ => [.cells (bedC (ownB b)), .cells (bedC (thB b))]) (fun i => R.length - i) 0 (Nat.zero_le _) rfl ⟨rfl, rfl, rfl, trivial⟩ ?_
   intro i hi
   conv => whnf
   by_cases hlt : i < R.length
   ·obtain ⟨q1, q2⟩ := f6 i hlt
    have hil : ((ints (R.getD i default)).length : Int) = (R.getD i default).length := by rw [zm]
    have hrl := f10 i
    have hbe : (!([(B.getD i default).1, (B.getD i default).2] == [(R.getD i default).getD (Int.toNat 0) default, (R.getD i default).getD (((ints (R.getD i default)).length : Int) - 1).toNat default])) = false := by
     rw [q1, show (((ints (R.getD i default)).length : Int) - 1).toNat = (R.getD i default).length - 1 by omega]
     simp
    have hnx : lkF (fun m => (R.getD m default).length) (i + 1) = if (lkF (fun m => (R.getD m default).length) i).2 < (R.getD i default).length then (i, (R.getD i default).length) else lkF (fun m => (R.getD m default).length) i := by rw [lkF]
    by_cases hc : (lkF (fun m => (R.getD m default).length) i).2 < (R.getD i default).length
    ·rw [if_pos hc] at hnx
     repeat' first | ((with_reducible first | apply XBr.ff | refine XBr.y fun h => ?_ | refine XBr.n fun h => ?_ | refine XBr.dec (fun h => ?_) fun h => ?_ | refine XInt.a ?_ | apply Chk.go | apply ChkA.go | apply ChkF.go | apply ChkB.go | apply zw.mk) <;> conv => whnf) | ((first | refine XIx.a ?_ | refine XIx.b ?_); conv => whnf) | (with_reducible first | apply XAnd.mk | exact trivial) | (exact zd.mk rfl rfl) | (apply Walk.drawN (id := 14) zb zg [] [] (hsU _) [_, _, _, _, _, _, _, _, _, _, _, _, _, _, _] (by kernel_rfl) rfl) | ((refine XEqA.mk ⟨[_, _], [_, _], rfl, rfl, rfl, rfl, ?_⟩); exact zd.mk (congrArg AV.bool hbe) rfl) | fail
     exact zk.go (i + 1) (by omega) (by omega) rfl ⟨rfl, rfl, rfl, rfl, rfl, rfl, rfl, rfl, rfl, rfl, by rw [hnx] <;> rfl, by rw [hnx]; exact congrArg (fun z => some (AV.int .i64 z)) hil, rfl, trivial⟩
    ·rw [if_neg hc] at hnx
     repeat' first | ((with_reducible first | apply XBr.ff | refine XBr.y fun h => ?_ | refine XBr.n fun h => ?_ | refine XBr.dec (fun h => ?_) fun h => ?_ | refine XInt.a ?_ | apply Chk.go | apply ChkA.go | apply ChkF.go | apply ChkB.go | apply zw.mk) <;> conv => whnf) | ((first | refine XIx.a ?_ | refine XIx.b ?_); conv => whnf) | (with_reducible first | apply XAnd.mk | exact trivial) | (exact zd.mk rfl rfl) | (apply Walk.drawN (id := 14) zb zg [] [] (hsU _) [_, _, _, _, _, _, _, _, _, _, _, _, _, _, _] (by kernel_rfl) rfl) | ((refine XEqA.mk ⟨[_, _], [_, _], rfl, rfl, rfl, rfl, ?_⟩); exact zd.mk (congrArg AV.bool hbe) rfl) | fail
     exact zk.go (i + 1) (by omega) (by omega) rfl ⟨rfl, rfl, rfl, rfl, rfl, rfl, rfl, rfl, rfl, rfl, by rw [hnx] <;> rfl, by rw [hnx] <;> rfl, rfl, trivial⟩
   ·obtain rfl : i = R.length := by omega
    rw [f4]
    repeat' first | ((with_reducible first | refine XBr.y fun h => ?_ | refine XBr.n fun h => ?_ | refine XBr.dec (fun h => ?_) fun h => ?_) <;> conv => whnf) | ((first | refine za.ret hco ?_ | refine za.ret hrc ?_); conv => whnf) | fail
    refine Walk.norm zb [] [(3, _), (7, _), (10, _), (12, _), (15, _), (16, _), (18, _), (19, _), (22, _), (23, _)] ⟨rfl, rfl, rfl, rfl, rfl, rfl, rfl, rfl, rfl, rfl, trivial⟩ ?_
    conv => whnf
    repeat' first | ((with_reducible first | apply XBr.tt | refine XBr.y1 fun h => ?_ | refine XBr.n1 fun h => ?_ | refine XBr.beq (fun h => ?_) fun h => ?_) <;> conv => whnf) | ((first | refine za.ret heq ?_ | refine za.ret hsa ?_ | refine za.ret zr ?_); conv => whnf) | fail
    all_goals exact ⟨.low rfl⟩
end GA
end
section
namespace GA
open Go Go.RowKit Go.Proofs
def bstA (o : Option (List Int)) : AV := match o with | none => .sl true [] | some l => .sl false (ints l)
theorem zcv {n : Nat} (o : Option (List Int)) : (bstA o).low n = true := by cases o with | none => rfl | some l => exact lowI l
theorem zdh {q : List Int -> Bool} {S : Nat} : ∀ {s : Nat} {l : List Int}, bstS q S s = some l -> l.length <= S
 | s + 1, l, h => by
   have hs : (lsS S s).length <= S := yR _ _
   rw [bstS] at h
   cases h1 : bstS q S s with
   | none =>
     rw [h1] at h; dsimp only at h
     split at h
     ·cases h; exact hs
     ·cases h
   | some l' =>
     rw [h1] at h; dsimp only at h
     split at h
     ·cases h; exact hs
     ·cases h; exact zdh h1
theorem bit_next (s i : Nat) : s.testBit i = decide (s / 2 ^ i % 2 = 1) := Nat.testBit_eq_decide_div_mod_eq
theorem div_next (s i : Nat) : s / 2 ^ (i + 1) = s / 2 ^ i / 2 := by rw [Nat.div_div_eq_div_mul, Nat.pow_succ]
set_option maxHeartbeats 2000000 in
theorem zdG (b : Bd) (hm : b.months.length <= 100000) (hs : b.surveys.length <= 100000) : Comp Tryz.prog 201 [bedA b] (ws b) := by
 have hck := yd b hm hs
 have e1 : ((b.surveys.map suA).length : Int) = b.surveys.length := by rw [List.length_map]
 unfold ws
 by_cases hE : bedE b = 0
 ·have ok := (zz b).1 hE
  have s1 := ok.s1
  have m1 := ok.m1
  have hnx := zcp b ok.toBedOk
  have hc0 := wY b false hs
  have hc1 := wY b true hs
  have hp := fun p => wz b ok.toBedOk hs false p
  have hl := fun p => posL_c b ok.toBedOk p
  have hp0 := hp fun _ => false
  have hp1 := hp fun _ => true
  have hl0 := hl fun _ => false
  have hl1 := hl alwP
  obtain ⟨k1, k2, k3⟩ := fm b fun _ => false
  obtain ⟨k4, k5, k6⟩ := fm b alwP
  rw [hE] at hck
  rw [if_neg (fun h => h hE), <- zdc ok.toBedOk, cls_all ok.toBedOk]
  cases h0 : zH b fun _ => false with
  | true =>
    have k2 := k2 h0
    refine Comp.body (T := tab) (res := [.tmp 2, .tmp 3]) zb [] Tryz.func201 rfl (by kernel_rfl) Tryz.ntmps201 rfl (by simp only [List.length_cons, List.length_nil]; decide) (by simp only [lowL, bedL]; rfl) ?_; conv => whnf
    repeat' first | ((with_reducible first | apply XBr.tt | refine XBr.y1 fun h => ?_ | refine XBr.n1 fun h => ?_ | refine XBr.beq (fun h => ?_) fun h => ?_ | refine XBr.y2 fun h => ?_ | refine XBr.n2 fun h => ?_ | refine XBr.bne (fun h => ?_) fun h => ?_ | apply Chk.go | apply ChkA.go | apply ChkF.go | apply ChkB.go | apply zw.mk) <;> conv => whnf) | (with_reducible first | apply XAnd.mk | exact trivial) | (exact zd.mk rfl rfl) | (apply Walk.drawN (id := 5) zb zg [] [] (hsU _) [_, _, _, _, _, _, _, _, _, _, _, _, _, _, _, _, _, _, _, _, _, _] (by kernel_rfl) rfl) | ((first | refine za.ret hck ?_ | refine za.ret hnx ?_ | refine za.ret hc0 ?_ | refine za.ret hp0 ?_ | refine XIx.vecV 0 rfl (by omega) rfl ?_ | refine za.ret hl0 ?_); conv => whnf) | fail
    exact ⟨.low rfl⟩
  | false =>
    have k3 := k3 h0
    cases h1 : zH b alwP with
    | false =>
      have k6 := k6 h1
      refine Comp.body (T := tab) (res := [.tmp 2, .tmp 3]) zb [] Tryz.func201 rfl (by kernel_rfl) Tryz.ntmps201 rfl (by simp only [List.length_cons, List.length_nil]; decide) (by simp only [lowL, bedL]; rfl) ?_; conv => whnf
      repeat' first | ((with_reducible first | refine XBr.y fun h => ?_ | refine XBr.n fun h => ?_ | refine XBr.dec (fun h => ?_) fun h => ?_ | refine XBr.y1 fun h => ?_ | refine XBr.n1 fun h => ?_ | refine XBr.beq (fun h => ?_) fun h => ?_ | refine XBr.y2 fun h => ?_ | refine XBr.n2 fun h => ?_ | refine XBr.bne (fun h => ?_) fun h => ?_ | apply Chk.go | apply ChkA.go | apply ChkF.go | apply ChkB.go | apply zw.mk) <;> conv => whnf) | (with_reducible first | apply XAnd.mk | exact trivial) | (exact zd.mk rfl rfl) | (apply Walk.drawN (id := 5) zb zg [] [] (hsU _) [_, _, _, _, _, _, _, _, _, _, _, _, _, _, _, _, _, _, _, _, _, _] (by kernel_rfl) rfl) | ((first | refine za.ret hck ?_ | refine za.ret hnx ?_ | refine za.ret hc0 ?_ | refine za.ret hc1 ?_ | refine za.ret hp0 ?_ | refine za.ret hp1 ?_ | refine XIx.vecV 0 rfl (by omega) rfl ?_ | refine za.ret hl0 ?_ | refine za.ret hl1 ?_); conv => whnf) | fail
      exact ⟨.low rfl⟩
    | true =>
      have k5 := k5 h1
      have q0 : clB b [] = false := by rw [<- zdc ok.toBedOk]; exact h0
      have hcx : clsF (clB b) b.surveys.length ≠ none := clsF_ex (by rw [<- h1, <- cls_all ok.toBedOk]; unfold evrL; rw [ya])
      obtain ⟨L, hL⟩ : ∃ L, clsF (clB b) b.surveys.length = some L := by
       cases h : clsF (clB b) b.surveys.length with
       | none => exact absurd h hcx
       | some L => exact ⟨L, rfl⟩
      have hfin := bstS_cls hL
      have hne := bstS_q (q := clB b) (S := b.surveys.length)
      have hp2 : 2 ^ b.surveys.length <= 256 := by
       have := Nat.pow_le_pow_right (show 0 < 2 by omega) s1
       simpa using this
      have hsh := shl_nat (k := b.surveys.length) (by omega)
      rw [hL]
      refine Comp.body (T := tab) (res := [.tmp 2, .tmp 3]) zb [] Tryz.func201 rfl (by kernel_rfl) Tryz.ntmps201 rfl (by simp only [List.length_cons, List.length_nil]; decide) (by simp only [lowL, bedL]; rfl) ?_; conv => whnf
      repeat' first | ((with_reducible first | refine XBr.y fun h => ?_ | refine XBr.n fun h => ?_ | refine XBr.dec (fun h => ?_) fun h => ?_ | refine XBr.y1 fun h => ?_ | refine XBr.n1 fun h => ?_ | refine XBr.beq (fun h => ?_) fun h => ?_ | refine XBr.y2 fun h => ?_ | refine XBr.n2 fun h => ?_ | refine XBr.bne (fun h => ?_) fun h => ?_ | apply Chk.go | apply ChkA.go | apply ChkF.go | apply ChkB.go | apply zw.mk) <;> conv => whnf) | (with_reducible first | apply XAnd.mk | exact trivial) | (exact zd.mk rfl rfl) | (apply Walk.drawN (id := 5) zb zg [] [] (hsU _) [_, _, _, _, _, _, _, _, _, _, _, _, _, _, _, _, _, _, _, _, _, _] (by kernel_rfl) rfl) | ((first | refine za.ret hck ?_ | refine za.ret hnx ?_ | refine za.ret hc0 ?_ | refine za.ret hc1 ?_ | refine za.ret hp0 ?_ | refine za.ret hp1 ?_ | refine XIx.vecV 0 rfl (by omega) rfl ?_ | refine za.ret hl0 ?_ | refine za.ret hl1 ?_); conv => whnf) | fail
      refine Walk.loopGK zb [] [(1, _), (2, _), (3, _), (5, _)] ⟨rfl, rfl, rfl, rfl, trivial⟩ (fun s : Nat => s <= 2 ^ b.surveys.length) (fun s => [(6, bstA (bstS (clB b) b.surveys.length s)), (7, natA s)]) (fun _ => []) (fun s => 2 ^ b.surveys.length - s) 0 (Nat.zero_le _) rfl ⟨rfl, rfl, trivial⟩ ?_ (fun _ _ => Nat.le_refl _) ?_
      ·intro q _
       refine ⟨fun z hz => (by cases hz), fun z hz => ?_⟩
       simp only [List.cons_append, List.nil_append, List.mem_cons, List.not_mem_nil, or_false] at hz
       rcases hz with rfl | rfl | rfl | rfl | rfl | rfl <;> first | rfl | exact zY b | exact gi b | exact zcv _
      intro s hs2
      conv => whnf
      by_cases hlt : s < 2 ^ b.surveys.length
      ·skip
       repeat' first | ((with_reducible first | refine XBr.y fun h => ?_ | refine XBr.n fun h => ?_ | refine XBr.dec (fun h => ?_) fun h => ?_) <;> conv => whnf) | ((first | refine zh.a ?_ | (refine XInt.eq (y := ((2 ^ b.surveys.length : Nat) : Int)) (by rw [List.length_map]; exact hsh) (by omega) (by omega) ?_) | refine za.counts hs ?_); conv => whnf) | fail
       refine Walk.thenFreeze 8 0 b.surveys.length ?_
       refine Walk.loopK zb [] [(1, _), (2, _), (3, _), (5, _), (6, _), (7, _), (8, _)] ⟨rfl, rfl, rfl, rfl, rfl, rfl, rfl, trivial⟩ (fun i : Nat => i <= b.surveys.length) (fun i => [(9, natA (s / 2 ^ i)), (10, natA i)]) (fun i => [.grow 4 false (bls b.surveys.length fun q => if q < i then s.testBit q else false)]) (fun i => b.surveys.length - i) 0 (Nat.zero_le _) (by rw [show (bls b.surveys.length fun q => if q < 0 then s.testBit q else false) = bls b.surveys.length fun _ => false from zW fun q _ => if_neg (Nat.not_lt_zero q)] <;> rfl) ⟨congrArg (fun z => some (AV.int .i64 z)) (by rw [Nat.pow_zero, Nat.div_one]), rfl, trivial⟩ ?_
       intro i hi
       have hbl := fun F => z9 b.surveys.length F
       have hbn := bit_next s i
       have hdn := div_next s i
       conv => whnf
       by_cases hlti : i < b.surveys.length
       ·have hrs : s / 2 ^ i <= s := Nat.div_le_self _ _
        generalize s / 2 ^ i = r at hbn hdn hrs ⊢
        have hv : decide ((r : Int).tmod 2 = 1) = s.testBit i := by
         rw [hbn, decide_eq_decide, show (r : Int).tmod 2 = ((r % 2 : Nat) : Int) from (Int.ofNat_tmod r 2).symm]; omega
        have hd2 : (r : Int).tdiv 2 = ((r / 2 : Nat) : Int) := (Int.ofNat_tdiv r 2).symm
        repeat' first | ((with_reducible first | refine XBr.y fun h => ?_ | refine XBr.n fun h => ?_ | refine XBr.dec (fun h => ?_) fun h => ?_ | refine XInt.a ?_) <;> conv => whnf) | ((first | refine zh.a ?_ | refine zh.mk (hbl _) ?_ | refine zh.mk ⟨hbl _, rfl, by omega, by omega⟩ ?_ | refine XPut.bls i (by omega) rfl (by omega) ?_); conv => whnf) | fail
        refine zk.go (i + 1) (by omega) (by omega) (congrArg (fun z => [Blk.grow _ false z]) (zW fun q _ => ?_)) ⟨rfl, rfl, rfl, rfl, rfl, rfl, rfl, congrArg (fun z : Nat => some (AV.int .i64 z)) hdn.symm, rfl, trivial⟩
        unfold updV
        by_cases hq : q = i
        ·rw [if_pos hq, if_pos (by omega), hq]; exact hv.symm
        ·rw [if_neg hq]
         show (if q < i + 1 then s.testBit q else false) = if q < i then s.testBit q else false
         by_cases hq2 : q < i
         ·rw [if_pos hq2, if_pos (by omega)]
         ·rw [if_neg hq2, if_neg (by omega)]
       ·obtain rfl : i = b.surveys.length := by omega
        rw [show (bls b.surveys.length fun q => if q < b.surveys.length then s.testBit q else false) = bls b.surveys.length fun q => s.testBit q from zW fun q hq => if_pos hq]
        have hps := hp fun q => s.testBit q
        have hls := hl fun q => s.testBit q
        have hlc := vi false (fun q => s.testBit q) b.surveys.length (by omega)
        change Comp Tryz.prog _ _ (slA (lsS b.surveys.length s)) at hlc
        have hll : (lsS b.surveys.length s).length <= b.surveys.length := yR _ _
        obtain ⟨j1, j2, j3⟩ := fm b fun q => s.testBit q
        rw [cls_set ok.toBedOk s] at j2 j3
        have hnx2 : bstS (clB b) b.surveys.length (s + 1) = match bstS (clB b) b.surveys.length s with | none => if clB b (lsS b.surveys.length s) = true then some (lsS b.surveys.length s) else none | some l => if befB (lsS b.surveys.length s) l = true /\ clB b (lsS b.surveys.length s) = true then some (lsS b.surveys.length s) else some l := rfl
        have hsle : clB b (lsS b.surveys.length s) = true -> slA (lsS b.surveys.length s) = bstA (some (lsS b.surveys.length s)) := fun h => by
         show AV.sl (lsS b.surveys.length s).isEmpty _ = _
         cases hz : lsS b.surveys.length s with
         | nil => rw [hz, q0] at h; cases h
         | cons x l => rfl
        obtain ⟨r, hr⟩ : ∃ r, clB b (lsS b.surveys.length s) = r := ⟨_, rfl⟩
        rw [hr] at hnx2 j2 j3 hsle
        cases hbs : bstS (clB b) b.surveys.length s with
        | none =>
          rw [hbs] at hnx2
          dsimp only at hnx2
          repeat' first | ((with_reducible first | refine XBr.y fun h => ?_ | refine XBr.n fun h => ?_ | refine XBr.dec (fun h => ?_) fun h => ?_) <;> conv => whnf) | ((first | refine zh.mk (hbl _) ?_ | refine XFrz.go rfl rfl (hbl _) ?_ | refine za.ret hlc ?_); conv => whnf) | fail
          refine Walk.norm zb [] [(1, _), (2, _), (3, _), (5, _), (6, _), (7, _), (8, _), (11, _)] ⟨rfl, rfl, rfl, rfl, rfl, rfl, rfl, rfl, trivial⟩ ?_
          conv => whnf
          cases r with
          | true =>
            have j2 := j2 rfl
            rw [if_pos rfl] at hnx2
            repeat' first | ((with_reducible first | apply XBr.tt | refine XBr.y1 fun h => ?_ | refine XBr.n1 fun h => ?_ | refine XBr.beq (fun h => ?_) fun h => ?_ | refine XInt.a ?_) <;> conv => whnf) | ((first | refine za.ret hps ?_ | refine XIx.vecV 0 rfl (by omega) rfl ?_ | refine za.ret hls ?_); conv => whnf) | fail
            exact zp.go (s + 1) [.dead] (by omega) (by omega) rfl ⟨rfl, rfl, rfl, rfl, by rw [hnx2, <- hsle rfl] <;> rfl, rfl, trivial⟩
          | false =>
            have j3 := j3 rfl
            rw [if_neg (by simp)] at hnx2
            repeat' first | ((with_reducible first | apply XBr.tt | refine XBr.y1 fun h => ?_ | refine XBr.n1 fun h => ?_ | refine XBr.beq (fun h => ?_) fun h => ?_ | refine XInt.a ?_) <;> conv => whnf) | ((first | refine za.ret hps ?_ | refine XIx.vecV 0 rfl (by omega) rfl ?_ | refine za.ret hls ?_); conv => whnf) | fail
            exact zp.go (s + 1) [.dead] (by omega) (by omega) rfl ⟨rfl, rfl, rfl, rfl, by rw [hnx2] <;> rfl, rfl, trivial⟩
        | some l0 =>
          rw [hbs] at hnx2
          dsimp only at hnx2
          have hl0l : l0.length <= 100000 := by have := zdh hbs; omega
          have hbf := zdE (lsS b.surveys.length s).isEmpty false (lsS b.surveys.length s) l0 (by omega) hl0l
          generalize befB (lsS b.surveys.length s) l0 = bf at hbf hnx2
          repeat' first | ((with_reducible first | refine XBr.y fun h => ?_ | refine XBr.n fun h => ?_ | refine XBr.dec (fun h => ?_) fun h => ?_) <;> conv => whnf) | ((first | refine zh.mk (hbl _) ?_ | refine XFrz.go rfl rfl (hbl _) ?_ | refine za.ret hlc ?_); conv => whnf) | fail
          refine Walk.norm zb [] [(1, _), (2, _), (3, _), (5, _), (6, _), (7, _), (8, _), (11, _)] ⟨rfl, rfl, rfl, rfl, rfl, rfl, rfl, rfl, trivial⟩ ?_
          conv => whnf
          cases bf with
          | false =>
            rw [if_neg (by simp)] at hnx2
            repeat' first | ((first | (with_reducible first | apply XBr.ff | refine XInt.a ?_) | (refine za.ret hbf ?_)); conv => whnf) | fail
            exact zp.go (s + 1) [.dead] (by omega) (by omega) rfl ⟨rfl, rfl, rfl, rfl, by rw [hnx2] <;> rfl, rfl, trivial⟩
          | true =>
            cases r with
            | true =>
              have j2 := j2 rfl
              rw [if_pos ⟨rfl, rfl⟩] at hnx2
              repeat' first | ((with_reducible first | apply XBr.tt | apply XBr.ff | refine XBr.y1 fun h => ?_ | refine XBr.n1 fun h => ?_ | refine XBr.beq (fun h => ?_) fun h => ?_ | refine XInt.a ?_) <;> conv => whnf) | ((first | refine za.ret hbf ?_ | refine za.ret hps ?_ | refine XIx.vecV 0 rfl (by omega) rfl ?_ | refine za.ret hls ?_); conv => whnf) | fail
              exact zp.go (s + 1) [.dead] (by omega) (by omega) rfl ⟨rfl, rfl, rfl, rfl, by rw [hnx2, <- hsle rfl] <;> rfl, rfl, trivial⟩
            | false =>
              have j3 := j3 rfl
              rw [if_neg (by simp)] at hnx2
              repeat' first | ((with_reducible first | apply XBr.tt | apply XBr.ff | refine XBr.y1 fun h => ?_ | refine XBr.n1 fun h => ?_ | refine XBr.beq (fun h => ?_) fun h => ?_ | refine XInt.a ?_) <;> conv => whnf) | ((first | refine za.ret hbf ?_ | refine za.ret hps ?_ | refine XIx.vecV 0 rfl (by omega) rfl ?_ | refine za.ret hls ?_); conv => whnf) | fail
              exact zp.go (s + 1) [.dead] (by omega) (by omega) rfl ⟨rfl, rfl, rfl, rfl, by rw [hnx2] <;> rfl, rfl, trivial⟩
      ·have hse : s = 2 ^ b.surveys.length := by omega
       have hLn : L ≠ [] := fun e => by have := (vm hL).2.1; rw [e, q0] at this; cases this
       have hsl : slA (outL (some L)) = bstA (some L) := by
        show AV.sl L.isEmpty _ = _
        cases L with
        | nil => exact absurd rfl hLn
        | cons x l => rfl
       rw [hsl, show bstS (clB b) b.surveys.length s = some L by rw [hse]; exact hfin]
       repeat' first | ((with_reducible first | refine XBr.y fun h => ?_ | refine XBr.n fun h => ?_ | refine XBr.dec (fun h => ?_) fun h => ?_) <;> conv => whnf) | ((first | refine zh.a ?_ | (refine XInt.eq (y := ((2 ^ b.surveys.length : Nat) : Int)) (by rw [List.length_map]; exact hsh) (by omega) (by omega) ?_)); conv => whnf) | fail
       exact ⟨.low (show lowL 0 [bstA (some L), _] = true by simp only [lowL, zcv, AV.low]; rfl)⟩
 ·rw [if_pos hE]
  generalize bedE b = e at hck hE
  refine Comp.body (T := tab) (res := [.tmp 2, .tmp 3]) zb [] Tryz.func201 rfl (by kernel_rfl) Tryz.ntmps201 rfl (by simp only [List.length_cons, List.length_nil]; decide) (by simp only [lowL, bedL]; rfl) ?_; conv => whnf
  repeat' first | ((with_reducible first | refine XBr.y2 fun h => ?_ | refine XBr.n2 fun h => ?_ | refine XBr.bne (fun h => ?_) fun h => ?_) <;> conv => whnf) | ((refine za.ret hck ?_); conv => whnf) | fail
  exact ⟨.low rfl⟩
end GA
end
section
namespace GA
open Go Go.RowKit Go.Proofs
theorem zdi (b : Bd) : ws (ownB b) = ws (thB b) := by
 unfold ws
 by_cases hE : bedE b = 0
 ·have ok := (zz b).1 hE
  have ok1 : BedOk (ownB b) := ⟨ok.r1, ok.r2, ok.m1, ok.m2, ok.f1, ok.f2, ok.u1, ok.u2, ok.mo⟩
  have ok2 : BedOk (thB b) := ⟨ok.r1, ok.r2, ok.m1, ok.m2, ok.f1, ok.f2, ok.u1, ok.u2, ok.mo⟩
  have h : clB (ownB b) = clB (thB b) := by
   funext L
   exact qA ok1 ok2 ⟨rfl, rfl, rfl, rfl⟩ fun m n => Iff.rfl
  rw [h]; rfl
 ·rw [if_pos (show bedE (ownB b) ≠ 0 from hE), if_pos (show bedE (thB b) ≠ 0 from hE)]; rfl
theorem zdq (b : Bd) (hs : b.surveys.length <= 100000) : ∃ l e, ws b = .tup [slA l, .int .i64 e] /\ l.length <= 100000 := by
 unfold ws
 split
 ·exact ⟨[], _, rfl, by simp⟩
 ·split
  ·exact ⟨[], _, rfl, by simp⟩
  ·refine ⟨_, _, rfl, ?_⟩
   cases h : clsF (clB b) b.surveys.length with
   | none => simp [outL]
   | some L => have := (vm h).2.2.1; show L.length <= 100000; omega
set_option maxHeartbeats 1000000 in
theorem zdX (b : Bd) : Comp Tryz.prog 96 [bedA b] (.bool true) := by
 have hgr := kK b
 have hwi := vR b 40 6 5
 cases hg : kE b
 case true =>
  refine Comp.body (T := tab) (res := [.tmp 2]) zb [] Tryz.func96 rfl (by kernel_rfl) Tryz.ntmps96 rfl (by simp only [List.length_cons, List.length_nil]; decide) (by simp only [lowL, bedL]; rfl) ?_; conv => whnf
  repeat' first | ((first | (with_reducible apply XBr.tt) | ((refine za.ret hgr ?_); rw [hg]) | (refine za.ret zr ?_)); conv => whnf) | fail
  exact ⟨.low rfl⟩
 generalize decide (40 < b.room /\ b.room <= 120 \/ (6 : Int) < b.months.length /\ (b.months.length : Int) <= 10 \/ (5 : Int) < b.surveys.length /\ (b.surveys.length : Int) <= 8) = w at hwi
 cases w with
 | true =>
   refine Comp.body (T := tab) (res := [.tmp 2]) zb [] Tryz.func96 rfl (by kernel_rfl) Tryz.ntmps96 rfl (by simp only [List.length_cons, List.length_nil]; decide) (by simp only [lowL, bedL]; rfl) ?_; conv => whnf
   repeat' first | ((first | (with_reducible first | apply XBr.tt | apply XBr.ff) | ((refine za.ret hgr ?_); rw [hg]) | (first | refine za.ret hwi ?_ | refine za.ret zr ?_)); conv => whnf) | fail
   exact ⟨.low rfl⟩
 | false =>
   obtain ⟨g1, g2⟩ := kO.1 hg
   have how := wv b (by omega) (by omega)
   have hth := kq b (by omega) (by omega)
   have hsa := jL b (by omega) (by omega)
   have hc := clash_c (ownB b) (show b.months.length <= 100000 by omega) (show b.surveys.length <= 100000 by omega)
   have hr := zdG (thB b) (show b.months.length <= 100000 by omega) (show b.surveys.length <= 100000 by omega)
   obtain ⟨l, e, hV, hl⟩ := zdq (thB b) (show b.surveys.length <= 100000 by omega)
   rw [zdi, hV] at hc
   rw [hV] at hr
   have heq := kL l.isEmpty l.isEmpty l l hl
   rw [beq_self_eq_true] at heq
   refine Comp.body (T := tab) (res := [.tmp 2]) zb [] Tryz.func96 rfl (by kernel_rfl) Tryz.ntmps96 rfl (by simp only [List.length_cons, List.length_nil]; decide) (by simp only [lowL, bedL]; rfl) ?_; conv => whnf
   repeat' first | ((with_reducible first | apply XBr.tt | apply XBr.ff | refine XBr.y1 fun h => ?_ | refine XBr.n1 fun h => ?_ | refine XBr.beq (fun h => ?_) fun h => ?_) <;> conv => whnf) | ((first | ((refine za.ret hgr ?_); rw [hg]) | (first | refine za.ret hwi ?_ | refine za.ret how ?_ | refine za.ret hth ?_ | refine za.ret hc ?_ | refine za.ret hr ?_ | refine za.ret heq ?_ | refine za.ret hsa ?_ | refine za.ret zr ?_)); conv => whnf) | fail
   all_goals exact ⟨.low rfl⟩
end GA
end
section
namespace GA
open Go Go.RowKit Go.Proofs
theorem zdR {b : Bd} {share : Int} (h : zC b share = 0) (hl : flrL b share b.months.length = none) : wi b share = .tup [.sl true [], .int .i64 0, .int .i64 6] := by
 unfold wi; rw [if_neg (fun h' => h' h), hl]
theorem ruleA_low {b : Bd} {share : Int} {l : List Int} (h : zC b share = 0) (hl : flrL b share b.months.length = some l) (hlt : zn b < l.getD 0 default) : wi b share = .tup [.sl true [], .int .i64 0, .int .i64 6] := by
 unfold wi; rw [if_neg (fun h' => h' h), hl]; dsimp only; rw [if_pos hlt]
theorem zdT {b : Bd} {share : Int} {l : List Int} (h : zC b share = 0) (hl : flrL b share b.months.length = some l) (hlt : ¬ zn b < l.getD 0 default) : wi b share = .tup [.sl false (jX b l), .int .i64 (mnP (smF b l b.months.length) (zn b).toNat (k9 b)), .int .i64 0] := by
 unfold wi; rw [if_neg (fun h' => h' h), hl]; dsimp only; rw [if_neg hlt]
end GA
end
