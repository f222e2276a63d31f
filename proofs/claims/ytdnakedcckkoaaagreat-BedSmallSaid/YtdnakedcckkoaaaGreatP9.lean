/- Part 9 of a proof: D47, D39, D40, D73, D66, D81. -/
import Derived.Test.YtdnakedcckkoaaaGreatP8
set_option linter.unusedVariables false
set_option linter.unusedSimpArgs false
set_option maxRecDepth 8000
section
namespace GA
open Go Go.RowKit Go.Proofs
theorem wr {b c : Bd} (hr : b.room = c.room) (hm : b.months = c.months) (share : Int) : ∀ k, flrL b share k = flrL c share k
 | 0 => rfl
 | k + 1 => by
   have h : ∀ m v, yB b m v = yB c m v := fun m v => by
    unfold yB
    rw [hr]
    simp only [jC hr hm]
   unfold flrL
   rw [wr hr hm share k, hm]
   simp only [h]
theorem qK {b c : Bd} (hr : b.room = c.room) (hm : b.months = c.months) (l : List Int) : ∀ k, smF b l k = smF c l k
 | 0 => by funext n; rfl
 | k + 1 => by
   funext n
   have h1 : ∀ m n, rkR b l m n = rkR c l m n := fun m n => by unfold rkR; rw [jC hr hm]
   have h2 : ∀ m n, gbR b m n = gbR c m n := fun m n => by unfold gbR moB; rw [hr, hm]
   unfold smF
   rw [qK hr hm l k, hr, hm]
   simp only [h1, h2, jC hr hm]
theorem ruleA_own (b : Bd) (share : Int) : wi (ownB b) share = wi b share := by
 unfold wi
 rw [wr (b := ownB b) (c := b) rfl rfl]
 simp only [qK (b := ownB b) (c := b) rfl rfl]
 rfl
theorem zd1 (b : Bd) (share : Int) : kW (ownB b) share = kW b share := by
 unfold kW
 rw [wr (b := ownB b) (c := b) rfl rfl]
 rfl
theorem wM (b : Bd) (l : List Int) : jX b l = yL (vecF b.months.length (yh b l)) := by
 have hne : ∀ i, (yh b l i).isEmpty = false := fun i => by
  have h1 : (yh b l i).length = b.room.toNat + 1 := zj _ _
  cases h : yh b l i with
  | nil => rw [h] at h1; simp at h1
  | cons x y => rfl
 unfold jX
 refine (List.ext_getElem? fun i => ?_)
 rw [List.getElem?_map, zO, zO]
 split
 ·show some _ = some (AV.sl (yh b l i).isEmpty _)
  rw [hne]
 ·rfl
theorem mn_min {F : Nat -> Int} (hF : ∀ q, 0 <= F q) {c0 n : Nat} {v : Int} (hn : c0 <= n) (hv : v = if n = c0 then F c0 else mnP F c0 n) : min v (F n) = if n + 1 = c0 then F c0 else mnP F c0 (n + 1) := by
 rw [if_neg (by omega), wP hn]
 unfold mnS
 by_cases h : n = c0
 ·subst h
  rw [if_pos rfl] at hv
  rw [hv, vr, if_pos (.inl (by omega))]; omega
 ·rw [if_neg h] at hv
  obtain ⟨q, -, -, hq⟩ := mnP_at (F := F) (lo := c0) n (by omega) fun q _ _ => hF q
  have := hF q
  split <;> omega
set_option maxHeartbeats 2000000 in
theorem gl (b : Bd) (nl : Bool) (floor : List Int) (share : Int) (_hx : floor.length < 9223372036854775808) : Comp Tryz.prog 24 [bedA b, .sl nl (ints floor), .int .i64 share] (.bool true) := by
 have hgr := kK b
 have hwi := vR b 40 10 8
 have e2 : ((ints floor).length : Int) = floor.length := by rw [zm]
 cases hg : kE b
 case true =>
  refine Comp.body (T := tab) (res := [.tmp 6]) zb [] Tryz.func24 rfl (by kernel_rfl) Tryz.ntmps24 rfl (by simp only [List.length_cons, List.length_nil]; decide) (by simp only [lowL, bedL, AV.low, lowI]; rfl) ?_; conv => whnf
  repeat' first | ((first | (with_reducible apply XBr.tt) | ((refine za.ret hgr ?_); rw [hg]) | (refine za.ret zr ?_)); conv => whnf) | fail
  exact ⟨.low rfl⟩
 by_cases hp14 : 14 < floor.length
 ·refine Comp.body (T := tab) (res := [.tmp 6]) zb [] Tryz.func24 rfl (by kernel_rfl) Tryz.ntmps24 rfl (by simp only [List.length_cons, List.length_nil]; decide) (by simp only [lowL, bedL, AV.low, lowI]; rfl) ?_; conv => whnf
  repeat' first | ((with_reducible first | apply XBr.tt | apply XBr.ff | refine XBr.y fun h => ?_ | refine XBr.n fun h => ?_ | refine XBr.dec (fun h => ?_) fun h => ?_) <;> conv => whnf) | ((first | ((refine za.ret hgr ?_); rw [hg]) | (refine za.ret zr ?_)); conv => whnf) | fail
  exact ⟨.low rfl⟩
 by_cases hw : 40 < b.room /\ b.room <= 120 \/ (10 : Int) < b.months.length /\ (b.months.length : Int) <= 10 \/ (8 : Int) < b.surveys.length /\ (b.surveys.length : Int) <= 8
 ·rw [decide_eq_true hw] at hwi
  refine Comp.body (T := tab) (res := [.tmp 6]) zb [] Tryz.func24 rfl (by kernel_rfl) Tryz.ntmps24 rfl (by simp only [List.length_cons, List.length_nil]; decide) (by simp only [lowL, bedL, AV.low, lowI]; rfl) ?_; conv => whnf
  repeat' first | ((with_reducible first | apply XBr.tt | apply XBr.ff | refine XBr.y fun h => ?_ | refine XBr.n fun h => ?_ | refine XBr.dec (fun h => ?_) fun h => ?_) <;> conv => whnf) | ((first | ((refine za.ret hgr ?_); rw [hg]) | (first | refine za.ret hwi ?_ | refine za.ret zr ?_)); conv => whnf) | fail
  exact ⟨.low rfl⟩
 rw [decide_eq_false hw] at hwi
 obtain ⟨g1, g2⟩ := kO.1 hg
 have hs1 : b.months.length <= 100000 := by omega
 have hs2 : b.surveys.length <= 100000 := by omega
 have how := wv b (by omega) (by omega)
 have hth := kq b (by omega) (by omega)
 have hdu := dupC nl floor (by omega)
 have hsa := jL b (by omega) (by omega)
 have hem := kL false nl floor floor (by omega)
 rw [beq_self_eq_true] at hem
 have hco := wx (thB b) nl floor hs1 hs2 (by omega)
 change Comp Tryz.prog _ _ (.int .i64 (zK b floor)) at hco
 have hck := yd (thB b) hs1 hs2
 change Comp Tryz.prog _ _ (.int .i64 (bedE b)) at hck
 have hke := kept_c (ownB b) false floor share hs1 hs2 (by omega)
 change Comp Tryz.prog _ _ (keptA b floor share) at hke
 have hfl := gx (ownB b) share hs1 hs2
 rw [zd1] at hfl
 have hru := rule_c (ownB b) share hs1 hs2
 rw [ruleA_own] at hru
 have hnil : Comp Tryz.prog 46 [.sl true (ints []), .sl true (ints [])] (.bool true) := kL true true [] [] (by simp)
 have hnir : Comp Tryz.prog 64 [.sl true (yL []), .sl true (yL [])] (.bool true) := eqRows true true [] (by simp) (fun r hr => by cases hr)
 have hCB : zK b floor = 0 -> bedE b = 0 := fun h => (zz b).2 (yS.1 h).1
 have hBC : bedE b ≠ 0 -> zK b floor = bedE b := fun h => by unfold zK; rw [if_pos h]
 unfold keptA at hke
 by_cases hB : bedE b = 0
 ·have ok := (zz b).1 hB
  rw [hB] at hck
  have tok : BedOk (thB b) := ⟨ok.r1, ok.r2, ok.m1, ok.m2, ok.f1, ok.f2, ok.u1, ok.u2, ok.mo⟩
  have hrk : zK b floor = 0 -> Comp Tryz.prog 134 [bedA (thB b), .sl nl (ints floor), .int .i64 share] (.bool (decide (wE b floor share))) := fun h => by
   obtain ⟨-, h1, h2⟩ := yS.1 h
   exact refKept_c (thB b) tok nl floor share h1 h2
  by_cases hS : 0 <= share /\ share <= b.room
  ·have hE : zC b share = 0 := yx.2 ⟨ok, hS⟩
   have hrf := zdQ (thB b) tok share hS
   unfold zbz at hrf
   rw [wr (b := thB b) (c := b) rfl rfl] at hrf
   change Comp Tryz.prog _ _ (match flrL b share b.months.length with | none => .sl true [] | some l => .sl false (ints l)) at hrf
   cases hfx : flrL b share b.months.length with
   | none =>
     rw [hfx] at hrf
     dsimp only at hrf
     rw [zdk hE hfx] at hfl
     rw [zdR hE hfx] at hru
     have heq := hnil
     have her := hnir
     by_cases hC : zK b floor = 0
     ·have hrk := hrk hC
      rw [if_neg (fun h => h hC), if_neg (by rw [zx.2 hS]; simp)] at hke
      rw [hC] at hco
      generalize decide (wE b floor share) = kp at hke hrk
      have hbb : (kp != kp) = false := by cases kp <;> rfl
      refine Comp.body (T := tab) (res := [.tmp 6]) zb [] Tryz.func24 rfl (by kernel_rfl) Tryz.ntmps24 rfl (by simp only [List.length_cons, List.length_nil]; decide) (by simp only [lowL, bedL, AV.low, lowI]; rfl) ?_; conv => whnf
      repeat' first | ((with_reducible first | apply XBr.ff | refine XBr.y fun h => ?_ | refine XBr.n fun h => ?_ | refine XBr.dec (fun h => ?_) fun h => ?_) <;> conv => whnf) | ((first | ((refine za.ret hgr ?_); rw [hg]) | (refine za.ret hwi ?_)); conv => whnf) | fail
      refine Walk.place (Walk.place ?_)
      apply Walk.drawX zb zg [] [6, 7, 8, 10] (fun fl => match fl with
       | [a, b', x, y] => [(bif a then .cells (bif x then bedC (ownB b) else bzero) else .free), (bif b' then .cells (bif y then bedC (thB b) else bzero) else .free)]
       | _ => []) [_, _, _, _, _, _, .ptr 0 0, .ptr 1 0, _, _, _] (by kernel_rfl) rfl
      ·skip
       repeat' first | ((with_reducible first | apply Chk.go | apply ChkA.go); conv => whnf) | (with_reducible first | apply XAnd.mk | exact trivial) | (exact zd.mk rfl rfl) | ((first | refine za.ret how ?_ | refine za.ret hth ?_ | refine za.ret hdu ?_); conv => whnf) | (first | ((refine zq.at 0 rfl ?_); (conv => whnf); exact zd.mk rfl rfl) | ((refine zq.at 1 rfl ?_); (conv => whnf); exact zd.mk rfl rfl)) | fail
      ·skip
       repeat' first | ((with_reducible first | apply Chk.go | apply ChkF.go | apply ChkB.go); conv => whnf) | (with_reducible first | apply XAnd.mk | exact trivial) | (exact zd.mk rfl rfl) | ((first | refine za.ret how ?_ | refine za.ret hth ?_ | refine za.ret hdu ?_); conv => whnf) | (first | ((refine zq.at 0 rfl ?_); (conv => whnf); exact zd.mk rfl rfl) | ((refine zq.at 1 rfl ?_); (conv => whnf); exact zd.mk rfl rfl)) | fail
      conv => whnf
      repeat' first | ((with_reducible first | apply XBr.tt | apply XBr.ff | refine XBr.y fun h => ?_ | refine XBr.n fun h => ?_ | refine XBr.dec (fun h => ?_) fun h => ?_ | refine XBr.y1 fun h => ?_ | refine XBr.n1 fun h => ?_ | refine XBr.beq (fun h => ?_) fun h => ?_ | refine XBr.y2 fun h => ?_ | refine XBr.n2 fun h => ?_ | refine XBr.bne (fun h => ?_) fun h => ?_) <;> conv => whnf) | ((first | refine za.ret hco ?_ | refine za.ret hke ?_ | refine za.ret hrk ?_ | refine za.ret hck ?_ | refine za.ret hrf ?_ | refine za.ret hfl ?_ | refine za.ret hru ?_ | (with_reducible refine XBr.no hbb ?_)); conv => whnf) | fail
      all_goals
       refine Walk.norm zb [] [(1, _), (2, _), (3, _), (6, _), (7, _), (8, _), (9, _), (10, _), (12, _), (13, _), (14, _), (15, _), (16, _), (21, _), (22, _), (23, _), (24, _)] ⟨rfl, rfl, rfl, rfl, rfl, rfl, rfl, rfl, rfl, rfl, rfl, rfl, rfl, rfl, rfl, rfl, rfl, trivial⟩ ?_
       conv => whnf
       repeat' first | ((with_reducible first | apply XBr.tt | refine XBr.y1 fun h => ?_ | refine XBr.n1 fun h => ?_ | refine XBr.beq (fun h => ?_) fun h => ?_) <;> conv => whnf) | ((first | refine za.ret heq ?_ | refine za.ret her ?_ | refine za.ret hem ?_ | refine za.ret hsa ?_ | refine za.ret zr ?_); conv => whnf) | fail
      all_goals first | exact ⟨.low rfl⟩ | (exfalso; omega) | (exfalso; simp at h; done)
     ·have hrk : True := trivial
      rw [if_pos hC] at hke
      generalize zK b floor = C at hC hke hco
      refine Comp.body (T := tab) (res := [.tmp 6]) zb [] Tryz.func24 rfl (by kernel_rfl) Tryz.ntmps24 rfl (by simp only [List.length_cons, List.length_nil]; decide) (by simp only [lowL, bedL, AV.low, lowI]; rfl) ?_; conv => whnf
      repeat' first | ((with_reducible first | apply XBr.ff | refine XBr.y fun h => ?_ | refine XBr.n fun h => ?_ | refine XBr.dec (fun h => ?_) fun h => ?_) <;> conv => whnf) | ((first | ((refine za.ret hgr ?_); rw [hg]) | (refine za.ret hwi ?_)); conv => whnf) | fail
      refine Walk.place (Walk.place ?_)
      apply Walk.drawX zb zg [] [6, 7, 8, 10] (fun fl => match fl with
       | [a, b', x, y] => [(bif a then .cells (bif x then bedC (ownB b) else bzero) else .free), (bif b' then .cells (bif y then bedC (thB b) else bzero) else .free)]
       | _ => []) [_, _, _, _, _, _, .ptr 0 0, .ptr 1 0, _, _, _] (by kernel_rfl) rfl
      ·skip
       repeat' first | ((with_reducible first | apply Chk.go | apply ChkA.go); conv => whnf) | (with_reducible first | apply XAnd.mk | exact trivial) | (exact zd.mk rfl rfl) | ((first | refine za.ret how ?_ | refine za.ret hth ?_ | refine za.ret hdu ?_); conv => whnf) | (first | ((refine zq.at 0 rfl ?_); (conv => whnf); exact zd.mk rfl rfl) | ((refine zq.at 1 rfl ?_); (conv => whnf); exact zd.mk rfl rfl)) | fail
      ·skip
       repeat' first | ((with_reducible first | apply Chk.go | apply ChkF.go | apply ChkB.go); conv => whnf) | (with_reducible first | apply XAnd.mk | exact trivial) | (exact zd.mk rfl rfl) | ((first | refine za.ret how ?_ | refine za.ret hth ?_ | refine za.ret hdu ?_); conv => whnf) | (first | ((refine zq.at 0 rfl ?_); (conv => whnf); exact zd.mk rfl rfl) | ((refine zq.at 1 rfl ?_); (conv => whnf); exact zd.mk rfl rfl)) | fail
      conv => whnf
      repeat' first | ((with_reducible first | apply XBr.tt | apply XBr.ff | refine XBr.y fun h => ?_ | refine XBr.n fun h => ?_ | refine XBr.dec (fun h => ?_) fun h => ?_ | refine XBr.y1 fun h => ?_ | refine XBr.n1 fun h => ?_ | refine XBr.beq (fun h => ?_) fun h => ?_ | refine XBr.y2 fun h => ?_ | refine XBr.n2 fun h => ?_ | refine XBr.bne (fun h => ?_) fun h => ?_) <;> conv => whnf) | ((first | refine za.ret hco ?_ | refine za.ret hke ?_ | refine za.ret hck ?_ | refine za.ret hrf ?_ | refine za.ret hfl ?_ | refine za.ret hru ?_ | (with_reducible refine XBr.no (by decide) ?_)); conv => whnf) | fail
      all_goals
       refine Walk.norm zb [] [(1, _), (2, _), (3, _), (6, _), (7, _), (8, _), (9, _), (10, _), (12, _), (13, _), (14, _), (15, _), (16, _), (21, _), (22, _), (23, _), (24, _)] ⟨rfl, rfl, rfl, rfl, rfl, rfl, rfl, rfl, rfl, rfl, rfl, rfl, rfl, rfl, rfl, rfl, rfl, trivial⟩ ?_
       conv => whnf
       repeat' first | ((with_reducible first | apply XBr.tt | refine XBr.y1 fun h => ?_ | refine XBr.n1 fun h => ?_ | refine XBr.beq (fun h => ?_) fun h => ?_) <;> conv => whnf) | ((first | refine za.ret heq ?_ | refine za.ret her ?_ | refine za.ret hem ?_ | refine za.ret hsa ?_ | refine za.ret zr ?_); conv => whnf) | fail
      all_goals first | exact ⟨.low rfl⟩ | (exfalso; omega) | (exfalso; simp at h; done)
   | some l =>
     obtain ⟨q1, q2, q3⟩ := gf ok.toBedOk hS _ l (Nat.le_refl _) hfx
     have hlen := wa hfx
     have hll : ((ints l).length : Int) = b.months.length + 1 := by rw [zm]; omega
     have hlv : ∀ j, j <= b.months.length -> 0 <= l.getD j default /\ l.getD j default <= b.room := fun j hj => q2 _ (zB (by omega))
     have heq := kL false false l l (by have := ok.m2; omega)
     rw [beq_self_eq_true] at heq
     rw [hfx] at hrf
     dsimp only at hrf
     rw [zdu hE hfx] at hfl
     have r1 := ok.r1
     have r2 := ok.r2
     have f1 := ok.f1
     have f2 := ok.f2
     have u1 := ok.u1
     have u2 := ok.u2
     have hlr : zn b = max 0 (b.first - b.unsure) := rfl
     have hl00 : l.getD (Int.toNat 0) default = l.getD 0 default := rfl
     by_cases hlt : zn b < l.getD 0 default
     ·rw [ruleA_low hE hfx hlt] at hru
      have her := hnir
      have hlt' : decide (max 0 (b.first - b.unsure) < l.getD (Int.toNat 0) default) = true := decide_eq_true hlt
      by_cases hC : zK b floor = 0
      ·have hrk := hrk hC
       rw [if_neg (fun h => h hC), if_neg (by rw [zx.2 hS]; simp)] at hke
       rw [hC] at hco
       generalize decide (wE b floor share) = kp at hke hrk
       have hbb : (kp != kp) = false := by cases kp <;> rfl
       refine Comp.body (T := tab) (res := [.tmp 6]) zb [] Tryz.func24 rfl (by kernel_rfl) Tryz.ntmps24 rfl (by simp only [List.length_cons, List.length_nil]; decide) (by simp only [lowL, bedL, AV.low, lowI]; rfl) ?_; conv => whnf
       repeat' first | ((with_reducible first | apply XBr.ff | refine XBr.y fun h => ?_ | refine XBr.n fun h => ?_ | refine XBr.dec (fun h => ?_) fun h => ?_) <;> conv => whnf) | ((first | ((refine za.ret hgr ?_); rw [hg]) | (refine za.ret hwi ?_)); conv => whnf) | fail
       refine Walk.place (Walk.place ?_)
       apply Walk.drawX zb zg [] [6, 7, 8, 10] (fun fl => match fl with
        | [a, b', x, y] => [(bif a then .cells (bif x then bedC (ownB b) else bzero) else .free), (bif b' then .cells (bif y then bedC (thB b) else bzero) else .free)]
        | _ => []) [_, _, _, _, _, _, .ptr 0 0, .ptr 1 0, _, _, _] (by kernel_rfl) rfl
       ·skip
        repeat' first | ((with_reducible first | apply Chk.go | apply ChkA.go); conv => whnf) | (with_reducible first | apply XAnd.mk | exact trivial) | (exact zd.mk rfl rfl) | ((first | refine za.ret how ?_ | refine za.ret hth ?_ | refine za.ret hdu ?_); conv => whnf) | (first | ((refine zq.at 0 rfl ?_); (conv => whnf); exact zd.mk rfl rfl) | ((refine zq.at 1 rfl ?_); (conv => whnf); exact zd.mk rfl rfl)) | fail
       ·skip
        repeat' first | ((with_reducible first | apply Chk.go | apply ChkF.go | apply ChkB.go); conv => whnf) | (with_reducible first | apply XAnd.mk | exact trivial) | (exact zd.mk rfl rfl) | ((first | refine za.ret how ?_ | refine za.ret hth ?_ | refine za.ret hdu ?_); conv => whnf) | (first | ((refine zq.at 0 rfl ?_); (conv => whnf); exact zd.mk rfl rfl) | ((refine zq.at 1 rfl ?_); (conv => whnf); exact zd.mk rfl rfl)) | fail
       conv => whnf
       repeat' first | ((with_reducible first | apply XBr.tt | apply XBr.ff | refine XBr.y fun h => ?_ | refine XBr.n fun h => ?_ | refine XBr.dec (fun h => ?_) fun h => ?_ | refine XBr.y1 fun h => ?_ | refine XBr.n1 fun h => ?_ | refine XBr.beq (fun h => ?_) fun h => ?_ | refine XBr.y2 fun h => ?_ | refine XBr.n2 fun h => ?_ | refine XBr.bne (fun h => ?_) fun h => ?_ | refine XInt.a ?_ | apply Chk.go | apply ChkA.go | apply ChkF.go | apply ChkB.go | apply zw.mk) <;> conv => whnf) | (refine XIx.b ?_; conv => whnf) | (with_reducible first | apply XAnd.mk | exact trivial) | (exact zd.mk rfl rfl) | (apply Walk.drawN (id := 20) zb zg [] [] (hsU _) [_, _, _, _, _, _, _, _, _, _] (by kernel_rfl) rfl) | ((first | refine za.ret hco ?_ | refine za.ret hke ?_ | refine za.ret hrk ?_ | refine za.ret hck ?_ | refine za.ret hrf ?_ | refine za.ret hfl ?_ | refine za.ret hru ?_ | (with_reducible refine XBr.no hbb ?_)); conv => whnf) | fail
       all_goals try (exfalso; omega)
       all_goals
        refine Walk.norm zb [] [(1, _), (2, _), (3, _), (6, _), (7, _), (8, _), (9, _), (10, _), (12, _), (13, _), (14, _), (15, _), (16, _), (21, _), (22, _), (23, _), (24, _)] ⟨rfl, rfl, rfl, rfl, rfl, rfl, rfl, rfl, rfl, rfl, rfl, rfl, rfl, rfl, rfl, rfl, rfl, trivial⟩ ?_
        conv => whnf
        repeat' first | ((with_reducible first | apply XBr.tt | refine XBr.y1 fun h => ?_ | refine XBr.n1 fun h => ?_ | refine XBr.beq (fun h => ?_) fun h => ?_) <;> conv => whnf) | ((first | refine za.ret heq ?_ | refine za.ret her ?_ | refine za.ret hem ?_ | refine za.ret hsa ?_ | refine za.ret zr ?_); conv => whnf) | fail
       all_goals first | exact ⟨.low rfl⟩ | (exfalso; omega) | (exfalso; simp at h; done)
      ·have hrk : True := trivial
       rw [if_pos hC] at hke
       generalize zK b floor = C at hC hke hco
       refine Comp.body (T := tab) (res := [.tmp 6]) zb [] Tryz.func24 rfl (by kernel_rfl) Tryz.ntmps24 rfl (by simp only [List.length_cons, List.length_nil]; decide) (by simp only [lowL, bedL, AV.low, lowI]; rfl) ?_; conv => whnf
       repeat' first | ((with_reducible first | apply XBr.ff | refine XBr.y fun h => ?_ | refine XBr.n fun h => ?_ | refine XBr.dec (fun h => ?_) fun h => ?_) <;> conv => whnf) | ((first | ((refine za.ret hgr ?_); rw [hg]) | (refine za.ret hwi ?_)); conv => whnf) | fail
       refine Walk.place (Walk.place ?_)
       apply Walk.drawX zb zg [] [6, 7, 8, 10] (fun fl => match fl with
        | [a, b', x, y] => [(bif a then .cells (bif x then bedC (ownB b) else bzero) else .free), (bif b' then .cells (bif y then bedC (thB b) else bzero) else .free)]
        | _ => []) [_, _, _, _, _, _, .ptr 0 0, .ptr 1 0, _, _, _] (by kernel_rfl) rfl
       ·skip
        repeat' first | ((with_reducible first | apply Chk.go | apply ChkA.go); conv => whnf) | (with_reducible first | apply XAnd.mk | exact trivial) | (exact zd.mk rfl rfl) | ((first | refine za.ret how ?_ | refine za.ret hth ?_ | refine za.ret hdu ?_); conv => whnf) | (first | ((refine zq.at 0 rfl ?_); (conv => whnf); exact zd.mk rfl rfl) | ((refine zq.at 1 rfl ?_); (conv => whnf); exact zd.mk rfl rfl)) | fail
       ·skip
        repeat' first | ((with_reducible first | apply Chk.go | apply ChkF.go | apply ChkB.go); conv => whnf) | (with_reducible first | apply XAnd.mk | exact trivial) | (exact zd.mk rfl rfl) | ((first | refine za.ret how ?_ | refine za.ret hth ?_ | refine za.ret hdu ?_); conv => whnf) | (first | ((refine zq.at 0 rfl ?_); (conv => whnf); exact zd.mk rfl rfl) | ((refine zq.at 1 rfl ?_); (conv => whnf); exact zd.mk rfl rfl)) | fail
       conv => whnf
       repeat' first | ((with_reducible first | apply XBr.tt | apply XBr.ff | refine XBr.y fun h => ?_ | refine XBr.n fun h => ?_ | refine XBr.dec (fun h => ?_) fun h => ?_ | refine XBr.y1 fun h => ?_ | refine XBr.n1 fun h => ?_ | refine XBr.beq (fun h => ?_) fun h => ?_ | refine XBr.y2 fun h => ?_ | refine XBr.n2 fun h => ?_ | refine XBr.bne (fun h => ?_) fun h => ?_ | refine XInt.a ?_ | apply Chk.go | apply ChkA.go | apply ChkF.go | apply ChkB.go | apply zw.mk) <;> conv => whnf) | (refine XIx.b ?_; conv => whnf) | (with_reducible first | apply XAnd.mk | exact trivial) | (exact zd.mk rfl rfl) | (apply Walk.drawN (id := 20) zb zg [] [] (hsU _) [_, _, _, _, _, _, _, _, _, _] (by kernel_rfl) rfl) | ((first | refine za.ret hco ?_ | refine za.ret hke ?_ | refine za.ret hck ?_ | refine za.ret hrf ?_ | refine za.ret hfl ?_ | refine za.ret hru ?_ | (with_reducible refine XBr.no (by decide) ?_)); conv => whnf) | fail
       all_goals try (exfalso; omega)
       all_goals
        refine Walk.norm zb [] [(1, _), (2, _), (3, _), (6, _), (7, _), (8, _), (9, _), (10, _), (12, _), (13, _), (14, _), (15, _), (16, _), (21, _), (22, _), (23, _), (24, _)] ⟨rfl, rfl, rfl, rfl, rfl, rfl, rfl, rfl, rfl, rfl, rfl, rfl, rfl, rfl, rfl, rfl, rfl, trivial⟩ ?_
        conv => whnf
        repeat' first | ((with_reducible first | apply XBr.tt | refine XBr.y1 fun h => ?_ | refine XBr.n1 fun h => ?_ | refine XBr.beq (fun h => ?_) fun h => ?_) <;> conv => whnf) | ((first | refine za.ret heq ?_ | refine za.ret her ?_ | refine za.ret hem ?_ | refine za.ret hsa ?_ | refine za.ret zr ?_); conv => whnf) | fail
       all_goals first | exact ⟨.low rfl⟩ | (exfalso; omega) | (exfalso; simp at h; done)
     ·rw [zdT hE hfx hlt] at hru
      have hlt' : decide (max 0 (b.first - b.unsure) < l.getD (Int.toNat 0) default) = false := decide_eq_false hlt
      have hsu := sums_c (thB b) tok false l hlen q2
      have hsu2 : sumsA (thB b) l = sumsA b l := by
       unfold sumsA zbn
       simp only [qK (b := thB b) (c := b) rfl rfl]; rfl
      rw [hsu2] at hsu
      have hsm := fun q => smF_b ok.toBedOk hlv b.months.length (Nat.le_refl _) q
      have m1 := ok.m1
      have m2 := ok.m2
      have e1 : ((b.months.map moA).length : Int) = b.months.length := by rw [List.length_map]
      obtain ⟨c0, hc0⟩ : ∃ c0 : Nat, max 0 (b.first - b.unsure) = c0 := ⟨(max 0 (b.first - b.unsure)).toNat, by omega⟩
      have her := eqRows false false (vecF b.months.length (yh b l)) (by rw [zj]; omega) (fun r hr => by
       obtain ⟨i, _, rfl⟩ := yQ.1 hr
       unfold yh; rw [zj]; omega)
      rw [wM] at hru
      by_cases hC : zK b floor = 0
      ·have hrk := hrk hC
       rw [if_neg (fun h => h hC), if_neg (by rw [zx.2 hS]; simp)] at hke
       rw [hC] at hco
       generalize decide (wE b floor share) = kp at hke hrk
       have hbb : (kp != kp) = false := by cases kp <;> rfl
       refine Comp.body (T := tab) (res := [.tmp 6]) zb [] Tryz.func24 rfl (by kernel_rfl) Tryz.ntmps24 rfl (by simp only [List.length_cons, List.length_nil]; decide) (by simp only [lowL, bedL, AV.low, lowI]; rfl) ?_; conv => whnf
       repeat' first | ((with_reducible first | apply XBr.ff | refine XBr.y fun h => ?_ | refine XBr.n fun h => ?_ | refine XBr.dec (fun h => ?_) fun h => ?_) <;> conv => whnf) | ((first | ((refine za.ret hgr ?_); rw [hg]) | (refine za.ret hwi ?_)); conv => whnf) | fail
       refine Walk.place (Walk.place ?_)
       apply Walk.drawX zb zg [] [6, 7, 8, 10] (fun fl => match fl with
        | [a, b', x, y] => [(bif a then .cells (bif x then bedC (ownB b) else bzero) else .free), (bif b' then .cells (bif y then bedC (thB b) else bzero) else .free)]
        | _ => []) [_, _, _, _, _, _, .ptr 0 0, .ptr 1 0, _, _, _] (by kernel_rfl) rfl
       ·skip
        repeat' first | ((with_reducible first | apply Chk.go | apply ChkA.go); conv => whnf) | (with_reducible first | apply XAnd.mk | exact trivial) | (exact zd.mk rfl rfl) | ((first | refine za.ret how ?_ | refine za.ret hth ?_ | refine za.ret hdu ?_); conv => whnf) | (first | ((refine zq.at 0 rfl ?_); (conv => whnf); exact zd.mk rfl rfl) | ((refine zq.at 1 rfl ?_); (conv => whnf); exact zd.mk rfl rfl)) | fail
       ·skip
        repeat' first | ((with_reducible first | apply Chk.go | apply ChkF.go | apply ChkB.go); conv => whnf) | (with_reducible first | apply XAnd.mk | exact trivial) | (exact zd.mk rfl rfl) | ((first | refine za.ret how ?_ | refine za.ret hth ?_ | refine za.ret hdu ?_); conv => whnf) | (first | ((refine zq.at 0 rfl ?_); (conv => whnf); exact zd.mk rfl rfl) | ((refine zq.at 1 rfl ?_); (conv => whnf); exact zd.mk rfl rfl)) | fail
       conv => whnf
       repeat' first | ((with_reducible first | apply XBr.tt | apply XBr.ff | refine XBr.y fun h => ?_ | refine XBr.n fun h => ?_ | refine XBr.dec (fun h => ?_) fun h => ?_ | refine XBr.y1 fun h => ?_ | refine XBr.n1 fun h => ?_ | refine XBr.beq (fun h => ?_) fun h => ?_ | refine XBr.y2 fun h => ?_ | refine XBr.n2 fun h => ?_ | refine XBr.bne (fun h => ?_) fun h => ?_ | refine XInt.a ?_ | apply Chk.go | apply ChkA.go | apply ChkF.go | apply ChkB.go | apply zw.mk) <;> conv => whnf) | (refine XIx.b ?_; conv => whnf) | (with_reducible first | apply XAnd.mk | exact trivial) | (exact zd.mk rfl rfl) | (apply Walk.drawN (id := 20) zb zg [] [] (hsU _) [_, _, _, _, _, _, _, _, _, _] (by kernel_rfl) rfl) | ((first | refine za.ret hco ?_ | refine za.ret hke ?_ | refine za.ret hrk ?_ | refine za.ret hck ?_ | refine za.ret hrf ?_ | refine za.ret hsu ?_ | refine XIx.vecV 0 rfl (by omega) rfl ?_ | refine XIx.ivs c0 hc0 (by omega) ?_ | (with_reducible refine XBr.no hbb ?_)); conv => whnf) | fail
       all_goals try (exfalso; omega)
       refine Walk.loopK zb [] [(1, _), (2, _), (3, _), (6, _), (7, _), (8, _), (9, _), (10, _), (13, _), (15, _), (16, _), (17, _)] ⟨rfl, rfl, rfl, rfl, rfl, rfl, rfl, rfl, rfl, rfl, rfl, rfl, trivial⟩ (fun q : Nat × Int => c0 <= q.1 /\ (q.1 : Int) <= min b.room (b.first + b.unsure) + 1 /\ q.2 = if q.1 = c0 then smF b l b.months.length c0 else mnP (smF b l b.months.length) c0 q.1) (fun q => [(14, .int .i64 q.2), (18, natA q.1)]) (fun _ => [.cells (bedC (ownB b)), .cells (bedC (thB b))]) (fun q => (min b.room (b.first + b.unsure) + 1).toNat - q.1) (c0, smF b l b.months.length c0) ⟨Nat.le_refl _, by dsimp only; omega, by dsimp only; rw [if_pos rfl]⟩ rfl ⟨rfl, congrArg (fun z => some (AV.int .i64 z)) hc0, trivial⟩ ?_
       rintro ⟨n, v⟩ ⟨hn1, hn2, hv⟩
       dsimp only at hn1 hn2 hv ⊢
       conv => whnf
       by_cases hln : (n : Int) <= min b.room (b.first + b.unsure)
       ·skip
        repeat' first | ((with_reducible first | refine XBr.y fun h => ?_ | refine XBr.n fun h => ?_ | refine XBr.dec (fun h => ?_) fun h => ?_ | refine XInt.a ?_) <;> conv => whnf) | ((refine XIx.ivs n (by omega) (by omega) ?_); conv => whnf) | fail
        exact zk.go (n + 1, min v (smF b l b.months.length n)) ⟨by dsimp only; omega, by dsimp only; omega, mn_min (fun q => (hsm q).1) hn1 hv⟩ (by dsimp only; omega) rfl ⟨rfl, rfl, rfl, rfl, rfl, rfl, rfl, rfl, rfl, rfl, rfl, rfl, rfl, rfl, trivial⟩
       ·have hvE : v = mnP (smF b l b.months.length) (zn b).toNat (k9 b) := by
         rw [if_neg (by omega)] at hv
         rw [hv, show (zn b).toNat = c0 by omega, show k9 b = n by unfold k9; omega]
        clear hv
        generalize mnP (smF b l b.months.length) (zn b).toNat (k9 b) = sm at hru hvE
        subst hvE
        repeat' ((with_reducible first | refine XBr.y fun h => ?_ | refine XBr.n fun h => ?_ | refine XBr.dec (fun h => ?_) fun h => ?_ | refine XInt.a ?_) <;> conv => whnf)
        refine Walk.nilgr 16 22 rfl ?_
        refine Walk.loopGK zb [] [(1, _), (2, _), (3, _), (6, _), (7, _), (8, _), (9, _), (10, _), (13, _), (14, _), (15, _), (152, _)] ⟨rfl, rfl, rfl, rfl, rfl, rfl, rfl, rfl, rfl, rfl, rfl, rfl, trivial⟩ (fun m : Nat => m <= b.months.length) (fun m => [(16, .gr 2 m), (153, natA m)]) (fun m => [.cells (bedC (ownB b)), .cells (bedC (thB b)), .grow 22 (decide (m = 0)) (vecF m (rowV b l m))]) (fun m => b.months.length - m) 0 (Nat.zero_le _) ?_ ⟨rfl, rfl, trivial⟩ ?_ (fun _ _ => (show (3 : Nat) <= 3 from Nat.le_refl 3)) ?_
        ·have e0 : vecF 0 (rowV b l 0) = [] := by rw [ya]; rfl
         rw [e0]; rfl
        ·intro q _
         refine ⟨fun z hz => ?_, fun z hz => ?_⟩
         ·simp only [List.mem_cons, List.not_mem_nil, or_false] at hz
          rcases hz with rfl | rfl | rfl <;> first | exact zY _ | exact kJ b l _ _
         ·simp only [List.cons_append, List.nil_append, List.mem_cons, List.not_mem_nil, or_false] at hz
          rcases hz with rfl | rfl | rfl | rfl | rfl | rfl | rfl | rfl | rfl | rfl | rfl | rfl | rfl | rfl <;> first | rfl | exact lowI _ | exact zY b
        intro m hm
        by_cases hmM : m < b.months.length
        ·have hvl : (vecF m (rowV b l m)).length = m := zj _ _
         have hE1 : vecF m (rowV b l m) ++ [.sl true []] = vecF (m + 1) (rowV b l m) := by
          rw [kr]
          unfold rowV; rw [if_neg (Nat.lt_irrefl m)]
         conv => whnf
         repeat' first | ((with_reducible first | refine XBr.y fun h => ?_ | refine XBr.n fun h => ?_ | refine XBr.dec (fun h => ?_) fun h => ?_ | refine XInt.a ?_) <;> conv => whnf) | (refine zh.a ?_; conv => whnf) | fail
         refine Walk.nilRowIn 2 m 3 (els := vecF m (rowV b l m) ++ [.sl true []]) rfl (by rw [hE1]; exact wc b l m _) ?_ ?_
         ·rw [hE1, zO, if_pos (by omega)]; unfold rowV; rw [if_neg (by omega)]
         have hone : ∀ n, ∀ x ∈ (vecF (m + 1) (rowV b l m)).set m (.gr 3 n), x.one = true := fun n x hx => by
          rcases List.mem_or_eq_of_mem_set hx with hx | rfl
          ·exact wc b l m _ x hx
          ·rfl
         refine Walk.loopKW [(1, _), (2, _), (3, _), (6, _), (7, _), (8, _), (9, _), (10, _), (13, _), (14, _), (15, _), (16, .gr 2 (m + 1)), (19, _), (152, _), (153, _), (161, _)] ⟨rfl, rfl, rfl, rfl, rfl, rfl, rfl, rfl, rfl, rfl, rfl, rfl, rfl, rfl, rfl, rfl, trivial⟩ (fun n : Nat => (n : Int) <= b.room + 1) (fun n => [(162, natA n)]) (fun n => [.cells (bedC (ownB b)), .cells (bedC (thB b)), .grow 22 false ((vecF (m + 1) (rowV b l m)).set m (.gr 3 (vecF n (rkR b l m)).length)), .grow 3 (vecF n (rkR b l m)).isEmpty (ints (vecF n (rkR b l m)))]) (fun n => (b.room + 1).toNat - n) 0 (by omega) ?_ ⟨rfl, trivial⟩ ?_
         ·have e0 : vecF 0 (rkR b l m) = [] := by rw [ya]; rfl
          rw [e0, <- hE1]
          show [_, _, Blk.grow _ false _, _] = [_, _, Blk.grow _ (decide (m = 0) && false) _, _]
          rw [Bool.and_false]; rfl
         intro n hn
         have hvn : (ints (vecF n (rkR b l m))).length = (vecF n (rkR b l m)).length := zm _
         have hvn2 : (vecF n (rkR b l m)).length = n := zj _ _
         have hvl2 : (vecF (m + 1) (rowV b l m)).length = m + 1 := zj _ _
         have hsl : ((vecF (m + 1) (rowV b l m)).set m (.gr 3 (vecF n (rkR b l m)).length)).length = m + 1 := by rw [List.length_set, zj]
         by_cases hnr : (n : Int) <= b.room
         ·have hrx := qE (thB b) tok false l hlen q2 m n hmM hnr
          change Comp Tryz.prog _ _ (.int .i64 (rkR b l m n)) at hrx
          refine Walk.run zb [] ?_
          conv => whnf
          repeat' first | ((with_reducible first | refine XBr.y fun h => ?_ | refine XBr.n fun h => ?_ | refine XBr.dec (fun h => ?_) fun h => ?_ | refine XInt.a ?_ | apply Chk.go | apply ChkA.go | apply ChkF.go | apply ChkB.go | apply zw.mk) <;> conv => whnf) | (refine zh.a ?_; conv => whnf) | (with_reducible first | apply XAnd.mk | exact trivial) | (exact zd.mk rfl rfl) | (apply Walk.drawN (id := 35) zb zg [] [12, 14] (hsC [_, _, _]) [_, _, _, _, _, _, _, _, _, _, _, _, _, _, _] (by kernel_rfl) rfl) | ((first | refine zh.mk ⟨hsl, rfl, by omega, by omega⟩ ?_ | refine XGet.set (by omega) (by omega) (by rw [zj]) ?_ | refine za.ret hrx ?_ | refine XPut.set (by omega) (by omega) (by rw [zj]) ?_); conv => whnf) | fail
          have hvs : vecF (n + 1) (rkR b l m) = vecF n (rkR b l m) ++ [rkR b l m n] := by rw [vecF, dif_neg (by omega), Nat.add_sub_cancel]
          refine zk.go (n + 1) (by omega) (by omega) ?_ ⟨rfl, rfl, rfl, rfl, rfl, rfl, rfl, rfl, rfl, rfl, rfl, rfl, rfl, rfl, rfl, rfl, rfl, trivial⟩
          rw [hvs]
          show [_, _, Blk.grow _ false (List.set _ m (.gr 3 (vecF n (rkR b l m) ++ [_]).length)), Blk.grow _ (vecF n (rkR b l m) ++ [_]).isEmpty ((vecF n (rkR b l m) ++ [_]).map (AV.int .i64))] = _
          rw [zD, List.map_append, List.length_append]
          rfl
         ·obtain rfl : n = b.room.toNat + 1 := by omega
          refine Walk.freezeRow 2 m 3 (vecF (b.room.toNat + 1) (rkR b l m)).length rfl (hone _) (by rw [List.getElem?_set_self (by rw [zj]; omega)]) rfl (by decide) hvn ?_
          refine Walk.run zb [] ?_
          conv => whnf
          repeat' ((with_reducible first | refine XBr.y fun h => ?_ | refine XBr.n fun h => ?_ | refine XBr.dec (fun h => ?_) fun h => ?_ | refine XInt.a ?_) <;> conv => whnf)
          refine zp.go (m + 1) [.dead] (by omega) (by omega) ?_ ⟨rfl, rfl, rfl, rfl, rfl, rfl, rfl, rfl, rfl, rfl, rfl, rfl, rfl, rfl, trivial⟩
          show [_, _, Blk.grow _ false (vecF (m + 1) (rowV b l (m + 1))), Blk.dead] = [_, _, Blk.grow _ false (((vecF (m + 1) (rowV b l m)).set m _).set m (.sl (vecF (b.room.toNat + 1) (rkR b l m)).isEmpty (ints (vecF (b.room.toNat + 1) (rkR b l m))))), Blk.dead]
          rw [List.set_set, qR]
          intro i _
          unfold rowV
          by_cases hi : i = m
          ·subst hi
           have e5 : (vecF (b.room.toNat + 1) (rkR b l i)).isEmpty = false := by
            cases h : vecF (b.room.toNat + 1) (rkR b l i) with
            | nil => rw [h] at hvn2; simp at hvn2
            | cons x y => rfl
           rw [if_pos rfl, if_pos (by omega), e5]; rfl
          ·rw [if_neg hi]
           by_cases hi2 : i < m
           ·rw [if_pos hi2, if_pos (by omega)]
           ·rw [if_neg hi2, if_neg (by omega)]
        ·obtain rfl : m = b.months.length := by omega
         have hz : decide (b.months.length = 0) = false := decide_eq_false (by omega)
         have hRV : vecF b.months.length (rowV b l b.months.length) = yL (vecF b.months.length (yh b l)) := by
          rw [<- wM]
          exact zy fun i hi => by unfold rowV; rw [if_pos hi]
         have hRl : (yL (vecF b.months.length (yh b l))).length = b.months.length := by rw [<- hRV, zj]
         have hRw : lowL 0 (yL (vecF b.months.length (yh b l))) = true := by rw [<- hRV]; exact kJ b l _ _
         rw [hRV, hz]
         conv => whnf
         repeat' first | ((with_reducible first | refine XBr.y fun h => ?_ | refine XBr.n fun h => ?_ | refine XBr.dec (fun h => ?_) fun h => ?_) <;> conv => whnf) | ((first | refine za.ret hfl ?_ | refine za.ret hru ?_); conv => whnf) | fail
         refine Walk.norm zb [] [(1, _), (2, _), (3, _), (6, _), (7, _), (8, _), (9, _), (10, _), (12, _), (13, _), (14, _), (15, _), (16, _), (21, _), (22, _), (23, _), (24, _)] ⟨rfl, rfl, rfl, rfl, rfl, rfl, rfl, rfl, rfl, rfl, rfl, rfl, rfl, rfl, rfl, rfl, rfl, trivial⟩ ?_
         conv => whnf
         repeat' first | ((with_reducible first | apply XBr.tt | refine XBr.y1 fun h => ?_ | refine XBr.n1 fun h => ?_ | refine XBr.beq (fun h => ?_) fun h => ?_) <;> conv => whnf) | ((first | refine za.ret heq ?_ | refine za.lend her (.cons (.low hRw) (.cons (Froz.grow rfl hRl hRw) .nil)) rfl ?_ | refine za.ret hem ?_ | refine za.ret hsa ?_ | refine za.ret zr ?_); conv => whnf) | fail
         exact ⟨.low rfl⟩
      ·have hrk : True := trivial
       rw [if_pos hC] at hke
       generalize zK b floor = C at hC hke hco
       refine Comp.body (T := tab) (res := [.tmp 6]) zb [] Tryz.func24 rfl (by kernel_rfl) Tryz.ntmps24 rfl (by simp only [List.length_cons, List.length_nil]; decide) (by simp only [lowL, bedL, AV.low, lowI]; rfl) ?_; conv => whnf
       repeat' first | ((with_reducible first | apply XBr.ff | refine XBr.y fun h => ?_ | refine XBr.n fun h => ?_ | refine XBr.dec (fun h => ?_) fun h => ?_) <;> conv => whnf) | ((first | ((refine za.ret hgr ?_); rw [hg]) | (refine za.ret hwi ?_)); conv => whnf) | fail
       refine Walk.place (Walk.place ?_)
       apply Walk.drawX zb zg [] [6, 7, 8, 10] (fun fl => match fl with
        | [a, b', x, y] => [(bif a then .cells (bif x then bedC (ownB b) else bzero) else .free), (bif b' then .cells (bif y then bedC (thB b) else bzero) else .free)]
        | _ => []) [_, _, _, _, _, _, .ptr 0 0, .ptr 1 0, _, _, _] (by kernel_rfl) rfl
       ·skip
        repeat' first | ((with_reducible first | apply Chk.go | apply ChkA.go); conv => whnf) | (with_reducible first | apply XAnd.mk | exact trivial) | (exact zd.mk rfl rfl) | ((first | refine za.ret how ?_ | refine za.ret hth ?_ | refine za.ret hdu ?_); conv => whnf) | (first | ((refine zq.at 0 rfl ?_); (conv => whnf); exact zd.mk rfl rfl) | ((refine zq.at 1 rfl ?_); (conv => whnf); exact zd.mk rfl rfl)) | fail
       ·skip
        repeat' first | ((with_reducible first | apply Chk.go | apply ChkF.go | apply ChkB.go); conv => whnf) | (with_reducible first | apply XAnd.mk | exact trivial) | (exact zd.mk rfl rfl) | ((first | refine za.ret how ?_ | refine za.ret hth ?_ | refine za.ret hdu ?_); conv => whnf) | (first | ((refine zq.at 0 rfl ?_); (conv => whnf); exact zd.mk rfl rfl) | ((refine zq.at 1 rfl ?_); (conv => whnf); exact zd.mk rfl rfl)) | fail
       conv => whnf
       repeat' first | ((with_reducible first | apply XBr.tt | apply XBr.ff | refine XBr.y fun h => ?_ | refine XBr.n fun h => ?_ | refine XBr.dec (fun h => ?_) fun h => ?_ | refine XBr.y1 fun h => ?_ | refine XBr.n1 fun h => ?_ | refine XBr.beq (fun h => ?_) fun h => ?_ | refine XBr.y2 fun h => ?_ | refine XBr.n2 fun h => ?_ | refine XBr.bne (fun h => ?_) fun h => ?_ | refine XInt.a ?_ | apply Chk.go | apply ChkA.go | apply ChkF.go | apply ChkB.go | apply zw.mk) <;> conv => whnf) | (refine XIx.b ?_; conv => whnf) | (with_reducible first | apply XAnd.mk | exact trivial) | (exact zd.mk rfl rfl) | (apply Walk.drawN (id := 20) zb zg [] [] (hsU _) [_, _, _, _, _, _, _, _, _, _] (by kernel_rfl) rfl) | ((first | refine za.ret hco ?_ | refine za.ret hke ?_ | refine za.ret hck ?_ | refine za.ret hrf ?_ | refine za.ret hsu ?_ | refine XIx.vecV 0 rfl (by omega) rfl ?_ | refine XIx.ivs c0 hc0 (by omega) ?_ | (with_reducible refine XBr.no (by decide) ?_)); conv => whnf) | fail
       all_goals try (exfalso; omega)
       refine Walk.loopK zb [] [(1, _), (2, _), (3, _), (6, _), (7, _), (8, _), (9, _), (10, _), (13, _), (15, _), (16, _), (17, _)] ⟨rfl, rfl, rfl, rfl, rfl, rfl, rfl, rfl, rfl, rfl, rfl, rfl, trivial⟩ (fun q : Nat × Int => c0 <= q.1 /\ (q.1 : Int) <= min b.room (b.first + b.unsure) + 1 /\ q.2 = if q.1 = c0 then smF b l b.months.length c0 else mnP (smF b l b.months.length) c0 q.1) (fun q => [(14, .int .i64 q.2), (18, natA q.1)]) (fun _ => [.cells (bedC (ownB b)), .cells (bedC (thB b))]) (fun q => (min b.room (b.first + b.unsure) + 1).toNat - q.1) (c0, smF b l b.months.length c0) ⟨Nat.le_refl _, by dsimp only; omega, by dsimp only; rw [if_pos rfl]⟩ rfl ⟨rfl, congrArg (fun z => some (AV.int .i64 z)) hc0, trivial⟩ ?_
       rintro ⟨n, v⟩ ⟨hn1, hn2, hv⟩
       dsimp only at hn1 hn2 hv ⊢
       conv => whnf
       by_cases hln : (n : Int) <= min b.room (b.first + b.unsure)
       ·skip
        repeat' first | ((with_reducible first | refine XBr.y fun h => ?_ | refine XBr.n fun h => ?_ | refine XBr.dec (fun h => ?_) fun h => ?_ | refine XInt.a ?_) <;> conv => whnf) | ((refine XIx.ivs n (by omega) (by omega) ?_); conv => whnf) | fail
        exact zk.go (n + 1, min v (smF b l b.months.length n)) ⟨by dsimp only; omega, by dsimp only; omega, mn_min (fun q => (hsm q).1) hn1 hv⟩ (by dsimp only; omega) rfl ⟨rfl, rfl, rfl, rfl, rfl, rfl, rfl, rfl, rfl, rfl, rfl, rfl, rfl, rfl, trivial⟩
       ·have hvE : v = mnP (smF b l b.months.length) (zn b).toNat (k9 b) := by
         rw [if_neg (by omega)] at hv
         rw [hv, show (zn b).toNat = c0 by omega, show k9 b = n by unfold k9; omega]
        clear hv
        generalize mnP (smF b l b.months.length) (zn b).toNat (k9 b) = sm at hru hvE
        subst hvE
        repeat' ((with_reducible first | refine XBr.y fun h => ?_ | refine XBr.n fun h => ?_ | refine XBr.dec (fun h => ?_) fun h => ?_ | refine XInt.a ?_) <;> conv => whnf)
        refine Walk.nilgr 16 22 rfl ?_
        refine Walk.loopGK zb [] [(1, _), (2, _), (3, _), (6, _), (7, _), (8, _), (9, _), (10, _), (13, _), (14, _), (15, _), (152, _)] ⟨rfl, rfl, rfl, rfl, rfl, rfl, rfl, rfl, rfl, rfl, rfl, rfl, trivial⟩ (fun m : Nat => m <= b.months.length) (fun m => [(16, .gr 2 m), (153, natA m)]) (fun m => [.cells (bedC (ownB b)), .cells (bedC (thB b)), .grow 22 (decide (m = 0)) (vecF m (rowV b l m))]) (fun m => b.months.length - m) 0 (Nat.zero_le _) ?_ ⟨rfl, rfl, trivial⟩ ?_ (fun _ _ => (show (3 : Nat) <= 3 from Nat.le_refl 3)) ?_
        ·have e0 : vecF 0 (rowV b l 0) = [] := by rw [ya]; rfl
         rw [e0]; rfl
        ·intro q _
         refine ⟨fun z hz => ?_, fun z hz => ?_⟩
         ·simp only [List.mem_cons, List.not_mem_nil, or_false] at hz
          rcases hz with rfl | rfl | rfl <;> first | exact zY _ | exact kJ b l _ _
         ·simp only [List.cons_append, List.nil_append, List.mem_cons, List.not_mem_nil, or_false] at hz
          rcases hz with rfl | rfl | rfl | rfl | rfl | rfl | rfl | rfl | rfl | rfl | rfl | rfl | rfl | rfl <;> first | rfl | exact lowI _ | exact zY b
        intro m hm
        by_cases hmM : m < b.months.length
        ·have hvl : (vecF m (rowV b l m)).length = m := zj _ _
         have hE1 : vecF m (rowV b l m) ++ [.sl true []] = vecF (m + 1) (rowV b l m) := by
          rw [kr]
          unfold rowV; rw [if_neg (Nat.lt_irrefl m)]
         conv => whnf
         repeat' first | ((with_reducible first | refine XBr.y fun h => ?_ | refine XBr.n fun h => ?_ | refine XBr.dec (fun h => ?_) fun h => ?_ | refine XInt.a ?_) <;> conv => whnf) | (refine zh.a ?_; conv => whnf) | fail
         refine Walk.nilRowIn 2 m 3 (els := vecF m (rowV b l m) ++ [.sl true []]) rfl (by rw [hE1]; exact wc b l m _) ?_ ?_
         ·rw [hE1, zO, if_pos (by omega)]; unfold rowV; rw [if_neg (by omega)]
         have hone : ∀ n, ∀ x ∈ (vecF (m + 1) (rowV b l m)).set m (.gr 3 n), x.one = true := fun n x hx => by
          rcases List.mem_or_eq_of_mem_set hx with hx | rfl
          ·exact wc b l m _ x hx
          ·rfl
         refine Walk.loopKW [(1, _), (2, _), (3, _), (6, _), (7, _), (8, _), (9, _), (10, _), (13, _), (14, _), (15, _), (16, .gr 2 (m + 1)), (19, _), (152, _), (153, _), (161, _)] ⟨rfl, rfl, rfl, rfl, rfl, rfl, rfl, rfl, rfl, rfl, rfl, rfl, rfl, rfl, rfl, rfl, trivial⟩ (fun n : Nat => (n : Int) <= b.room + 1) (fun n => [(162, natA n)]) (fun n => [.cells (bedC (ownB b)), .cells (bedC (thB b)), .grow 22 false ((vecF (m + 1) (rowV b l m)).set m (.gr 3 (vecF n (rkR b l m)).length)), .grow 3 (vecF n (rkR b l m)).isEmpty (ints (vecF n (rkR b l m)))]) (fun n => (b.room + 1).toNat - n) 0 (by omega) ?_ ⟨rfl, trivial⟩ ?_
         ·have e0 : vecF 0 (rkR b l m) = [] := by rw [ya]; rfl
          rw [e0, <- hE1]
          show [_, _, Blk.grow _ false _, _] = [_, _, Blk.grow _ (decide (m = 0) && false) _, _]
          rw [Bool.and_false]; rfl
         intro n hn
         have hvn : (ints (vecF n (rkR b l m))).length = (vecF n (rkR b l m)).length := zm _
         have hvn2 : (vecF n (rkR b l m)).length = n := zj _ _
         have hvl2 : (vecF (m + 1) (rowV b l m)).length = m + 1 := zj _ _
         have hsl : ((vecF (m + 1) (rowV b l m)).set m (.gr 3 (vecF n (rkR b l m)).length)).length = m + 1 := by rw [List.length_set, zj]
         by_cases hnr : (n : Int) <= b.room
         ·have hrx := qE (thB b) tok false l hlen q2 m n hmM hnr
          change Comp Tryz.prog _ _ (.int .i64 (rkR b l m n)) at hrx
          refine Walk.run zb [] ?_
          conv => whnf
          repeat' first | ((with_reducible first | refine XBr.y fun h => ?_ | refine XBr.n fun h => ?_ | refine XBr.dec (fun h => ?_) fun h => ?_ | refine XInt.a ?_ | apply Chk.go | apply ChkA.go | apply ChkF.go | apply ChkB.go | apply zw.mk) <;> conv => whnf) | (refine zh.a ?_; conv => whnf) | (with_reducible first | apply XAnd.mk | exact trivial) | (exact zd.mk rfl rfl) | (apply Walk.drawN (id := 35) zb zg [] [12, 14] (hsC [_, _, _]) [_, _, _, _, _, _, _, _, _, _, _, _, _, _, _] (by kernel_rfl) rfl) | ((first | refine zh.mk ⟨hsl, rfl, by omega, by omega⟩ ?_ | refine XGet.set (by omega) (by omega) (by rw [zj]) ?_ | refine za.ret hrx ?_ | refine XPut.set (by omega) (by omega) (by rw [zj]) ?_); conv => whnf) | fail
          have hvs : vecF (n + 1) (rkR b l m) = vecF n (rkR b l m) ++ [rkR b l m n] := by rw [vecF, dif_neg (by omega), Nat.add_sub_cancel]
          refine zk.go (n + 1) (by omega) (by omega) ?_ ⟨rfl, rfl, rfl, rfl, rfl, rfl, rfl, rfl, rfl, rfl, rfl, rfl, rfl, rfl, rfl, rfl, rfl, trivial⟩
          rw [hvs]
          show [_, _, Blk.grow _ false (List.set _ m (.gr 3 (vecF n (rkR b l m) ++ [_]).length)), Blk.grow _ (vecF n (rkR b l m) ++ [_]).isEmpty ((vecF n (rkR b l m) ++ [_]).map (AV.int .i64))] = _
          rw [zD, List.map_append, List.length_append]
          rfl
         ·obtain rfl : n = b.room.toNat + 1 := by omega
          refine Walk.freezeRow 2 m 3 (vecF (b.room.toNat + 1) (rkR b l m)).length rfl (hone _) (by rw [List.getElem?_set_self (by rw [zj]; omega)]) rfl (by decide) hvn ?_
          refine Walk.run zb [] ?_
          conv => whnf
          repeat' ((with_reducible first | refine XBr.y fun h => ?_ | refine XBr.n fun h => ?_ | refine XBr.dec (fun h => ?_) fun h => ?_ | refine XInt.a ?_) <;> conv => whnf)
          refine zp.go (m + 1) [.dead] (by omega) (by omega) ?_ ⟨rfl, rfl, rfl, rfl, rfl, rfl, rfl, rfl, rfl, rfl, rfl, rfl, rfl, rfl, trivial⟩
          show [_, _, Blk.grow _ false (vecF (m + 1) (rowV b l (m + 1))), Blk.dead] = [_, _, Blk.grow _ false (((vecF (m + 1) (rowV b l m)).set m _).set m (.sl (vecF (b.room.toNat + 1) (rkR b l m)).isEmpty (ints (vecF (b.room.toNat + 1) (rkR b l m))))), Blk.dead]
          rw [List.set_set, qR]
          intro i _
          unfold rowV
          by_cases hi : i = m
          ·subst hi
           have e5 : (vecF (b.room.toNat + 1) (rkR b l i)).isEmpty = false := by
            cases h : vecF (b.room.toNat + 1) (rkR b l i) with
            | nil => rw [h] at hvn2; simp at hvn2
            | cons x y => rfl
           rw [if_pos rfl, if_pos (by omega), e5]; rfl
          ·rw [if_neg hi]
           by_cases hi2 : i < m
           ·rw [if_pos hi2, if_pos (by omega)]
           ·rw [if_neg hi2, if_neg (by omega)]
        ·obtain rfl : m = b.months.length := by omega
         have hz : decide (b.months.length = 0) = false := decide_eq_false (by omega)
         have hRV : vecF b.months.length (rowV b l b.months.length) = yL (vecF b.months.length (yh b l)) := by
          rw [<- wM]
          exact zy fun i hi => by unfold rowV; rw [if_pos hi]
         have hRl : (yL (vecF b.months.length (yh b l))).length = b.months.length := by rw [<- hRV, zj]
         have hRw : lowL 0 (yL (vecF b.months.length (yh b l))) = true := by rw [<- hRV]; exact kJ b l _ _
         rw [hRV, hz]
         conv => whnf
         repeat' first | ((with_reducible first | refine XBr.y fun h => ?_ | refine XBr.n fun h => ?_ | refine XBr.dec (fun h => ?_) fun h => ?_) <;> conv => whnf) | ((first | refine za.ret hfl ?_ | refine za.ret hru ?_); conv => whnf) | fail
         refine Walk.norm zb [] [(1, _), (2, _), (3, _), (6, _), (7, _), (8, _), (9, _), (10, _), (12, _), (13, _), (14, _), (15, _), (16, _), (21, _), (22, _), (23, _), (24, _)] ⟨rfl, rfl, rfl, rfl, rfl, rfl, rfl, rfl, rfl, rfl, rfl, rfl, rfl, rfl, rfl, rfl, rfl, trivial⟩ ?_
         conv => whnf
         repeat' first | ((with_reducible first | apply XBr.tt | refine XBr.y1 fun h => ?_ | refine XBr.n1 fun h => ?_ | refine XBr.beq (fun h => ?_) fun h => ?_) <;> conv => whnf) | ((first | refine za.ret heq ?_ | refine za.lend her (.cons (.low hRw) (.cons (Froz.grow rfl hRl hRw) .nil)) rfl ?_ | refine za.ret hem ?_ | refine za.ret hsa ?_ | refine za.ret zr ?_); conv => whnf) | fail
         exact ⟨.low rfl⟩
  ·have hns : inZ share 0 b.room = false := Bool.eq_false_iff.2 fun h => hS (zx.1 h)
   have hE3 : zC b share = 3 := by unfold zC; rw [if_neg (fun h => h hB), if_pos hns]
   unfold kW at hfl
   unfold wi at hru
   rw [if_pos (by rw [hE3]; decide), hE3] at hfl hru
   have heq := hnil
   have her := hnir
   by_cases hC : zK b floor = 0
   ·have hrk := hrk hC
    rw [if_neg (fun h => h hC), if_pos hns] at hke
    rw [hC] at hco
    refine Comp.body (T := tab) (res := [.tmp 6]) zb [] Tryz.func24 rfl (by kernel_rfl) Tryz.ntmps24 rfl (by simp only [List.length_cons, List.length_nil]; decide) (by simp only [lowL, bedL, AV.low, lowI]; rfl) ?_; conv => whnf
    repeat' first | ((with_reducible first | apply XBr.ff | refine XBr.y fun h => ?_ | refine XBr.n fun h => ?_ | refine XBr.dec (fun h => ?_) fun h => ?_) <;> conv => whnf) | ((first | ((refine za.ret hgr ?_); rw [hg]) | (refine za.ret hwi ?_)); conv => whnf) | fail
    refine Walk.place (Walk.place ?_)
    apply Walk.drawX zb zg [] [6, 7, 8, 10] (fun fl => match fl with
     | [a, b', x, y] => [(bif a then .cells (bif x then bedC (ownB b) else bzero) else .free), (bif b' then .cells (bif y then bedC (thB b) else bzero) else .free)]
     | _ => []) [_, _, _, _, _, _, .ptr 0 0, .ptr 1 0, _, _, _] (by kernel_rfl) rfl
    ·skip
     repeat' first | ((with_reducible first | apply Chk.go | apply ChkA.go); conv => whnf) | (with_reducible first | apply XAnd.mk | exact trivial) | (exact zd.mk rfl rfl) | ((first | refine za.ret how ?_ | refine za.ret hth ?_ | refine za.ret hdu ?_); conv => whnf) | (first | ((refine zq.at 0 rfl ?_); (conv => whnf); exact zd.mk rfl rfl) | ((refine zq.at 1 rfl ?_); (conv => whnf); exact zd.mk rfl rfl)) | fail
    ·skip
     repeat' first | ((with_reducible first | apply Chk.go | apply ChkF.go | apply ChkB.go); conv => whnf) | (with_reducible first | apply XAnd.mk | exact trivial) | (exact zd.mk rfl rfl) | ((first | refine za.ret how ?_ | refine za.ret hth ?_ | refine za.ret hdu ?_); conv => whnf) | (first | ((refine zq.at 0 rfl ?_); (conv => whnf); exact zd.mk rfl rfl) | ((refine zq.at 1 rfl ?_); (conv => whnf); exact zd.mk rfl rfl)) | fail
    conv => whnf
    repeat' first | ((with_reducible first | apply XBr.tt | apply XBr.ff | refine XBr.y fun h => ?_ | refine XBr.n fun h => ?_ | refine XBr.dec (fun h => ?_) fun h => ?_ | refine XBr.y1 fun h => ?_ | refine XBr.n1 fun h => ?_ | refine XBr.beq (fun h => ?_) fun h => ?_ | refine XBr.y2 fun h => ?_ | refine XBr.n2 fun h => ?_ | refine XBr.bne (fun h => ?_) fun h => ?_) <;> conv => whnf) | ((first | refine za.ret hco ?_ | refine za.ret hke ?_ | refine za.ret hck ?_ | refine za.ret hfl ?_ | refine za.ret hru ?_ | (with_reducible refine XBr.no (by decide) ?_)); conv => whnf) | fail
    all_goals
     refine Walk.norm zb [] [(1, _), (2, _), (3, _), (6, _), (7, _), (8, _), (9, _), (10, _), (12, _), (13, _), (14, _), (15, _), (16, _), (21, _), (22, _), (23, _), (24, _)] ⟨rfl, rfl, rfl, rfl, rfl, rfl, rfl, rfl, rfl, rfl, rfl, rfl, rfl, rfl, rfl, rfl, rfl, trivial⟩ ?_
     conv => whnf
     repeat' first | ((with_reducible first | apply XBr.tt | refine XBr.y1 fun h => ?_ | refine XBr.n1 fun h => ?_ | refine XBr.beq (fun h => ?_) fun h => ?_) <;> conv => whnf) | ((first | refine za.ret heq ?_ | refine za.ret her ?_ | refine za.ret hem ?_ | refine za.ret hsa ?_ | refine za.ret zr ?_); conv => whnf) | fail
    all_goals first | exact ⟨.low rfl⟩ | (exfalso; omega) | (exfalso; simp at h; done)
   ·have hrk : True := trivial
    rw [if_pos hC] at hke
    generalize zK b floor = C at hC hke hco
    refine Comp.body (T := tab) (res := [.tmp 6]) zb [] Tryz.func24 rfl (by kernel_rfl) Tryz.ntmps24 rfl (by simp only [List.length_cons, List.length_nil]; decide) (by simp only [lowL, bedL, AV.low, lowI]; rfl) ?_; conv => whnf
    repeat' first | ((with_reducible first | apply XBr.ff | refine XBr.y fun h => ?_ | refine XBr.n fun h => ?_ | refine XBr.dec (fun h => ?_) fun h => ?_) <;> conv => whnf) | ((first | ((refine za.ret hgr ?_); rw [hg]) | (refine za.ret hwi ?_)); conv => whnf) | fail
    refine Walk.place (Walk.place ?_)
    apply Walk.drawX zb zg [] [6, 7, 8, 10] (fun fl => match fl with
     | [a, b', x, y] => [(bif a then .cells (bif x then bedC (ownB b) else bzero) else .free), (bif b' then .cells (bif y then bedC (thB b) else bzero) else .free)]
     | _ => []) [_, _, _, _, _, _, .ptr 0 0, .ptr 1 0, _, _, _] (by kernel_rfl) rfl
    ·skip
     repeat' first | ((with_reducible first | apply Chk.go | apply ChkA.go); conv => whnf) | (with_reducible first | apply XAnd.mk | exact trivial) | (exact zd.mk rfl rfl) | ((first | refine za.ret how ?_ | refine za.ret hth ?_ | refine za.ret hdu ?_); conv => whnf) | (first | ((refine zq.at 0 rfl ?_); (conv => whnf); exact zd.mk rfl rfl) | ((refine zq.at 1 rfl ?_); (conv => whnf); exact zd.mk rfl rfl)) | fail
    ·skip
     repeat' first | ((with_reducible first | apply Chk.go | apply ChkF.go | apply ChkB.go); conv => whnf) | (with_reducible first | apply XAnd.mk | exact trivial) | (exact zd.mk rfl rfl) | ((first | refine za.ret how ?_ | refine za.ret hth ?_ | refine za.ret hdu ?_); conv => whnf) | (first | ((refine zq.at 0 rfl ?_); (conv => whnf); exact zd.mk rfl rfl) | ((refine zq.at 1 rfl ?_); (conv => whnf); exact zd.mk rfl rfl)) | fail
    conv => whnf
    repeat' first | ((with_reducible first | apply XBr.tt | apply XBr.ff | refine XBr.y fun h => ?_ | refine XBr.n fun h => ?_ | refine XBr.dec (fun h => ?_) fun h => ?_ | refine XBr.y1 fun h => ?_ | refine XBr.n1 fun h => ?_ | refine XBr.beq (fun h => ?_) fun h => ?_ | refine XBr.y2 fun h => ?_ | refine XBr.n2 fun h => ?_ | refine XBr.bne (fun h => ?_) fun h => ?_) <;> conv => whnf) | ((first | refine za.ret hco ?_ | refine za.ret hke ?_ | refine za.ret hck ?_ | refine za.ret hfl ?_ | refine za.ret hru ?_ | (with_reducible refine XBr.no (by decide) ?_)); conv => whnf) | fail
    all_goals
     refine Walk.norm zb [] [(1, _), (2, _), (3, _), (6, _), (7, _), (8, _), (9, _), (10, _), (12, _), (13, _), (14, _), (15, _), (16, _), (21, _), (22, _), (23, _), (24, _)] ⟨rfl, rfl, rfl, rfl, rfl, rfl, rfl, rfl, rfl, rfl, rfl, rfl, rfl, rfl, rfl, rfl, rfl, trivial⟩ ?_
     conv => whnf
     repeat' first | ((with_reducible first | apply XBr.tt | refine XBr.y1 fun h => ?_ | refine XBr.n1 fun h => ?_ | refine XBr.beq (fun h => ?_) fun h => ?_) <;> conv => whnf) | ((first | refine za.ret heq ?_ | refine za.ret her ?_ | refine za.ret hem ?_ | refine za.ret hsa ?_ | refine za.ret zr ?_); conv => whnf) | fail
    all_goals first | exact ⟨.low rfl⟩ | (exfalso; omega) | (exfalso; simp at h; done)
 ·have hE4 : zC b share = bedE b := by unfold zC; rw [if_pos hB]
  unfold kW at hfl
  unfold wi at hru
  rw [if_pos (by rw [hE4]; exact hB), hE4] at hfl hru
  have heq := hnil
  have her := hnir
  have hrk : True := trivial
  have hC := hBC hB
  rw [hC] at hke hco
  rw [if_pos hB] at hke
  clear hCB hBC hC
  generalize bedE b = B at hB hck hke hco hfl hru
  refine Comp.body (T := tab) (res := [.tmp 6]) zb [] Tryz.func24 rfl (by kernel_rfl) Tryz.ntmps24 rfl (by simp only [List.length_cons, List.length_nil]; decide) (by simp only [lowL, bedL, AV.low, lowI]; rfl) ?_; conv => whnf
  repeat' first | ((with_reducible first | apply XBr.ff | refine XBr.y fun h => ?_ | refine XBr.n fun h => ?_ | refine XBr.dec (fun h => ?_) fun h => ?_) <;> conv => whnf) | ((first | ((refine za.ret hgr ?_); rw [hg]) | (refine za.ret hwi ?_)); conv => whnf) | fail
  refine Walk.place (Walk.place ?_)
  apply Walk.drawX zb zg [] [6, 7, 8, 10] (fun fl => match fl with
   | [a, b', x, y] => [(bif a then .cells (bif x then bedC (ownB b) else bzero) else .free), (bif b' then .cells (bif y then bedC (thB b) else bzero) else .free)]
   | _ => []) [_, _, _, _, _, _, .ptr 0 0, .ptr 1 0, _, _, _] (by kernel_rfl) rfl
  ·skip
   repeat' first | ((with_reducible first | apply Chk.go | apply ChkA.go); conv => whnf) | (with_reducible first | apply XAnd.mk | exact trivial) | (exact zd.mk rfl rfl) | ((first | refine za.ret how ?_ | refine za.ret hth ?_ | refine za.ret hdu ?_); conv => whnf) | (first | ((refine zq.at 0 rfl ?_); (conv => whnf); exact zd.mk rfl rfl) | ((refine zq.at 1 rfl ?_); (conv => whnf); exact zd.mk rfl rfl)) | fail
  ·skip
   repeat' first | ((with_reducible first | apply Chk.go | apply ChkF.go | apply ChkB.go); conv => whnf) | (with_reducible first | apply XAnd.mk | exact trivial) | (exact zd.mk rfl rfl) | ((first | refine za.ret how ?_ | refine za.ret hth ?_ | refine za.ret hdu ?_); conv => whnf) | (first | ((refine zq.at 0 rfl ?_); (conv => whnf); exact zd.mk rfl rfl) | ((refine zq.at 1 rfl ?_); (conv => whnf); exact zd.mk rfl rfl)) | fail
  conv => whnf
  repeat' first | ((with_reducible first | apply XBr.ff | refine XBr.y1 fun h => ?_ | refine XBr.n1 fun h => ?_ | refine XBr.beq (fun h => ?_) fun h => ?_ | refine XBr.y2 fun h => ?_ | refine XBr.n2 fun h => ?_ | refine XBr.bne (fun h => ?_) fun h => ?_) <;> conv => whnf) | ((first | refine za.ret hco ?_ | refine za.ret hke ?_ | refine za.ret hck ?_ | refine za.ret hfl ?_ | refine za.ret hru ?_ | (with_reducible refine XBr.no (by decide) ?_)); conv => whnf) | fail
  all_goals
   refine Walk.norm zb [] [(1, _), (2, _), (3, _), (6, _), (7, _), (8, _), (9, _), (10, _), (12, _), (13, _), (14, _), (15, _), (16, _), (21, _), (22, _), (23, _), (24, _)] ⟨rfl, rfl, rfl, rfl, rfl, rfl, rfl, rfl, rfl, rfl, rfl, rfl, rfl, rfl, rfl, rfl, rfl, trivial⟩ ?_
   conv => whnf
   repeat' first | ((with_reducible first | apply XBr.tt | refine XBr.y1 fun h => ?_ | refine XBr.n1 fun h => ?_ | refine XBr.beq (fun h => ?_) fun h => ?_) <;> conv => whnf) | ((first | refine za.ret heq ?_ | refine za.ret her ?_ | refine za.ret hem ?_ | refine za.ret hsa ?_ | refine za.ret zr ?_); conv => whnf) | fail
  all_goals first | exact ⟨.low rfl⟩ | (exfalso; omega) | (exfalso; simp at h; done)
end GA
end
section
namespace GA
open Go Go.RowKit Go.Proofs
theorem equal_rch (n1 n2 : Bool) (xs : List (Int × Int)) (hx : xs.length <= 100000) : Comp Tryz.prog 230 [.sl n1 (chsA xs), .sl n2 (chsA xs)] (.bool true) := by
 refine Comp.body (T := tab) (res := [.tmp 4]) zb [] Tryz.func230 rfl (by kernel_rfl) Tryz.ntmps230 rfl (by simp only [List.length_cons, List.length_nil]; decide) (by simp only [lowL, AV.low, zU]; rfl) ?_; conv => whnf
 have hx2 : (chsA xs).length = xs.length := List.length_map _
 repeat' ((with_reducible first | refine XBr.y2 fun h => ?_ | refine XBr.n2 fun h => ?_ | refine XBr.bne (fun h => ?_) fun h => ?_) <;> conv => whnf)
 refine Walk.loop zb [] (fun i : Nat => i <= xs.length) (fun i => [(0, .sl n1 (chsA xs)), (1, .sl n2 (chsA xs)), (12, .int .i64 xs.length), (13, .int .i64 i)]) (fun _ => []) (fun i => xs.length - i) 0 (Nat.zero_le _) rfl ⟨rfl, rfl, by rw [<- hx2]; rfl, rfl, trivial⟩ ?_
 intro i hi
 conv => whnf
 repeat' first | ((with_reducible first | apply XBr.ff | refine XBr.y fun h => ?_ | refine XBr.n fun h => ?_ | refine XBr.dec (fun h => ?_) fun h => ?_ | refine XInt.a ?_ | apply Chk.go | apply ChkA.go | apply ChkF.go | apply ChkB.go | apply zw.mk) <;> conv => whnf) | (refine XIx.a ?_; conv => whnf) | (with_reducible first | apply XAnd.mk | exact trivial) | (exact zd.mk rfl rfl) | (apply Walk.drawN (id := 6) zb zg [] [] (hsU _) [_, _, _, _, _, _, _, _, _] (by kernel_rfl) rfl) | ((refine XEqA.mk ⟨[(xs.getD i default).1, (xs.getD i default).2], [(xs.getD i default).1, (xs.getD i default).2], rfl, rfl, rfl, rfl, ?_⟩); exact zd.mk (show AV.bool (!(_ == _)) = AV.bool false by simp) rfl) | fail
 ·exact zk.go (i + 1) (by omega) (by omega) rfl ⟨rfl, rfl, rfl, rfl, trivial⟩
 ·exact XOut.bool rfl
theorem eq_rch (n1 n2 : Bool) (xs : List (Int × Int)) (hx : xs.length <= 100000) : Comp Tryz.prog 144 [.sl n1 (chsA xs), .sl n2 (chsA xs)] (.bool true) := by
 refine Comp.body (T := tab) (res := [.tmp 4]) zb [] Tryz.func144 rfl (by kernel_rfl) Tryz.ntmps144 rfl (by simp only [List.length_cons, List.length_nil]; decide) (by simp only [lowL, AV.low, zU]; rfl) ?_; conv => whnf
 repeat' ((refine za.ret (equal_rch n1 n2 xs hx) ?_); conv => whnf)
 exact XOut.bool rfl
theorem zcU {b : Bd} {c : List Int} {k : Nat} (h : chK b c k = none) : ∀ d, chK b c (k + d) = none
 | 0 => h
 | d + 1 => by
   have ih := zcU h d
   rw [show k + (d + 1) = (k + d) + 1 by omega, chK, ih]
theorem vZ (b : Bd) (nl : Bool) (c : List Int) (h1 : b.months.length <= 100000) (h2 : b.surveys.length <= 100000) (h3 : c.length <= 100000) : Comp Tryz.prog 143 [bedA b, .sl nl (ints c)] (yu b c) := by
 have hco := wx b nl c h1 h2 h3
 unfold yu
 by_cases hE : zK b c = 0
 ·obtain ⟨ok, hl, hb⟩ := yS.1 hE
  have m1 := ok.m1
  have m2 := ok.m2
  have r1 := ok.r1
  have r2 := ok.r2
  have f1 := ok.f1
  have f2 := ok.f2
  have u1 := ok.u1
  have u2 := ok.u2
  have e1 : ((b.months.map moA).length : Int) = b.months.length := by rw [List.length_map]
  have hcv : ∀ m, m <= b.months.length -> 0 <= c.getD m default /\ c.getD m default <= b.room := fun m hm => hb _ (zB (by omega))
  have hc0 : c.getD (Int.toNat 0) default = c.getD 0 default := rfl
  rw [hE] at hco
  rw [if_neg (fun h => h hE)]
  have hof := zZ (c.getD 0 default) (b.first - b.unsure) (b.first + b.unsure)
  cases hin : inZ (c.getD 0 default) (b.first - b.unsure) (b.first + b.unsure)
  ·have hr : chR b c = none := by unfold chR; rw [if_neg (by rw [hin]; simp)]
   rw [hr]
   rw [hin] at hof
   refine Comp.body (T := tab) (res := [.tmp 4, .tmp 5]) zb [] Tryz.func143 rfl (by kernel_rfl) Tryz.ntmps143 rfl (by simp only [List.length_cons, List.length_nil]; decide) (by simp only [lowL, bedL, AV.low, lowI]; rfl) ?_; conv => whnf
   repeat' first | ((with_reducible first | apply XBr.ff | refine XBr.y2 fun h => ?_ | refine XBr.n2 fun h => ?_ | refine XBr.bne (fun h => ?_) fun h => ?_ | refine XInt.a ?_ | apply Chk.go | apply ChkA.go | apply ChkF.go | apply ChkB.go | apply zw.mk) <;> conv => whnf) | (refine XIx.b ?_; conv => whnf) | (with_reducible first | apply XBr.not | apply XAnd.mk | exact trivial) | (exact zd.mk rfl rfl) | (apply Walk.drawN (id := 4) zb zg [] [] (hsU _) [_, _, _, _, _, _, _, _, _, _, _, _, _, _] (by kernel_rfl) rfl) | ((first | refine za.ret hco ?_ | refine za.ret hof ?_); conv => whnf) | fail
   exact ⟨.low rfl⟩
  ·have hr : chR b c = chK b c b.months.length := by unfold chR; rw [if_pos hin]
   rw [hr]
   rw [hin] at hof
   refine Comp.body (T := tab) (res := [.tmp 4, .tmp 5]) zb [] Tryz.func143 rfl (by kernel_rfl) Tryz.ntmps143 rfl (by simp only [List.length_cons, List.length_nil]; decide) (by simp only [lowL, bedL, AV.low, lowI]; rfl) ?_; conv => whnf
   repeat' first | ((with_reducible first | apply XBr.tt | refine XBr.y2 fun h => ?_ | refine XBr.n2 fun h => ?_ | refine XBr.bne (fun h => ?_) fun h => ?_ | refine XInt.a ?_ | apply Chk.go | apply ChkA.go | apply ChkF.go | apply ChkB.go | apply zw.mk) <;> conv => whnf) | (refine XIx.b ?_; conv => whnf) | (with_reducible first | apply XBr.not | apply XAnd.mk | exact trivial) | (exact zd.mk rfl rfl) | (apply Walk.drawN (id := 4) zb zg [] [] (hsU _) [_, _, _, _, _, _, _, _, _, _, _, _, _, _] (by kernel_rfl) rfl) | ((first | refine za.ret hco ?_ | refine za.ret hof ?_); conv => whnf) | fail
   refine Walk.nilgr 7 194 rfl ?_
   refine Walk.loopGK zb [] [(1, _), (2, _)] ⟨rfl, rfl, trivial⟩ (fun q : Nat × List (Int × Int) => q.1 <= b.months.length /\ chK b c q.1 = some q.2) (fun q => [(7, .gr 0 q.2.length), (8, natA q.1)]) (fun q => [.grow 194 q.2.isEmpty (chsA q.2)]) (fun q => b.months.length - q.1) (0, []) ⟨Nat.zero_le _, rfl⟩ rfl ⟨rfl, rfl, trivial⟩ ?_ (fun _ _ => (show (1 : Nat) <= 1 from Nat.le_refl 1)) ?_
   ·intro q _
    refine ⟨fun z hz => ?_, fun z hz => ?_⟩
    ·rw [List.mem_singleton] at hz; subst hz; exact zU _
    ·simp only [List.cons_append, List.nil_append, List.mem_cons, List.not_mem_nil, or_false] at hz
     rcases hz with rfl | rfl | rfl | rfl <;> first | rfl | exact zY b | exact lowI _
   rintro ⟨i, l⟩ ⟨hi, hk⟩
   dsimp only at hi hk ⊢
   have hll := gR hk
   have hkn : chK b c (i + 1) = match fstC b i (c.getD i default) (c.getD (i + 1) default) with | none => none | some x => some (l ++ [x]) := by rw [chK, hk] <;> rfl
   conv => whnf
   by_cases hlt : i < b.months.length
   ·have hmo := ok.mo' hlt
    have hv1 := hcv i (by omega)
    have hv2 := hcv (i + 1) (by omega)
    have hci : c.getD ((i : Int) + 1).toNat default = c.getD (i + 1) default := congrArg (fun z => c.getD z default) (by omega : ((i : Int) + 1).toNat = i + 1)
    generalize ha : c.getD i default = a at hkn hv1
    generalize hkk : c.getD (i + 1) default = k at hkn hv2 hci
    generalize hF : fstC b i a k = F at hkn
    repeat' first | ((with_reducible first | refine XBr.y fun h => ?_ | refine XBr.n fun h => ?_ | refine XBr.dec (fun h => ?_) fun h => ?_) <;> conv => whnf) | (refine XIx.a ?_; conv => whnf) | fail
    refine Walk.loopGK zb [] [(1, _), (2, _), (8, _), (9, _)] ⟨rfl, rfl, rfl, rfl, trivial⟩ (fun q : Nat × List (Int × Int) => (moB b i).pl <= q.1 /\ (q.1 : Int) <= (moB b i).ph + 1 /\ ((q.2 = l /\ fF (spS b i a k) q.1 (moB b i).ph = F) \/ ∃ x, q.2 = l ++ [x] /\ F = some x)) (fun q => [(7, .gr 0 q.2.length), (10, natA q.1)]) (fun q => [.grow 194 q.2.isEmpty (chsA q.2), .cells (moC (moB b i))]) (fun q => ((moB b i).ph + 1).toNat - q.1) ((moB b i).pl.toNat, l) ⟨by dsimp only; omega, by dsimp only; omega, .inl ⟨rfl, hF⟩⟩ rfl ⟨rfl, congrArg (fun z => some (AV.int .i64 z)) (show (moB b i).pl = (((moB b i).pl.toNat : Nat) : Int) by omega), trivial⟩ ?_ (fun _ _ => (show (2 : Nat) <= 2 from Nat.le_refl 2)) ?_
    ·intro q _
     refine ⟨fun z hz => ?_, fun z hz => ?_⟩
     ·simp only [List.mem_cons, List.not_mem_nil, or_false] at hz
      rcases hz with rfl | rfl <;> first | exact zU _ | rfl
     ·simp only [List.cons_append, List.nil_append, List.mem_cons, List.not_mem_nil, or_false] at hz
      rcases hz with rfl | rfl | rfl | rfl | rfl | rfl <;> first | rfl | exact zY b | exact lowI _
    rintro ⟨sp, l'⟩ ⟨hs1, hs2, ho⟩
    dsimp only at hs1 hs2 ho ⊢
    have hl'1 : l'.length <= 12 := by rcases ho with ⟨rfl, _⟩ | ⟨x, rfl, _⟩ <;> (try rw [List.length_append, List.length_singleton]) <;> omega
    conv => whnf
    by_cases hlts : (sp : Int) <= (moB b i).ph
    ·skip
     repeat' ((with_reducible first | refine XBr.y fun h => ?_ | refine XBr.n fun h => ?_ | refine XBr.dec (fun h => ?_) fun h => ?_) <;> conv => whnf)
     refine Walk.loopGK zb [] [(1, _), (2, _), (8, _), (9, _), (10, _)] ⟨rfl, rfl, rfl, rfl, rfl, trivial⟩ (fun q : Nat × List (Int × Int) => (moB b i).tl <= q.1 /\ (q.1 : Int) <= (moB b i).th + 1 /\ ((q.2 = l /\ fF (stS b i a k sp) q.1 (moB b i).th = spS b i a k sp /\ fF (spS b i a k) sp (moB b i).ph = F) \/ ∃ x, q.2 = l ++ [x] /\ F = some x)) (fun q => [(7, .gr 0 q.2.length), (11, natA q.1)]) (fun q => [.grow 194 q.2.isEmpty (chsA q.2), .cells (moC (moB b i))]) (fun q => ((moB b i).th + 1).toNat - q.1) ((moB b i).tl.toNat, l') ⟨by dsimp only; omega, by dsimp only; omega, ho.imp (fun h => ⟨h.1, rfl, h.2⟩) id⟩ rfl ⟨rfl, congrArg (fun z => some (AV.int .i64 z)) (show (moB b i).tl = (((moB b i).tl.toNat : Nat) : Int) by omega), trivial⟩ ?_ (fun _ _ => (show (2 : Nat) <= 2 from Nat.le_refl 2)) ?_
     ·intro q _
      refine ⟨fun z hz => ?_, fun z hz => ?_⟩
      ·simp only [List.mem_cons, List.not_mem_nil, or_false] at hz
       rcases hz with rfl | rfl <;> first | exact zU _ | rfl
      ·simp only [List.cons_append, List.nil_append, List.mem_cons, List.not_mem_nil, or_false] at hz
       rcases hz with rfl | rfl | rfl | rfl | rfl | rfl | rfl <;> first | rfl | exact zY b | exact lowI _
     rintro ⟨st, l2⟩ ⟨ht1, ht2, ho2⟩
     dsimp only at ht1 ht2 ho2 ⊢
     conv => whnf
     by_cases hltt : (st : Int) <= (moB b i).th
     ·have hg := kf b (moB b i) a sp st hv1.1 (by omega) hmo.1 hmo.2.1 (by omega) (by omega) (by omega) (by omega) (by omega) (by omega)
      have hgb := ku (room := b.room) (g := (moB b i).g) (a := a) (sp := sp) (st := st) (by omega) (by omega)
      have hst : stS b i a k sp st = if zJ b.room (moB b i).g a sp st - (moB b i).r == k then some ((sp : Int), (st : Int)) else none := rfl
      generalize zJ b.room (moB b i).g a sp st = v at hg hgb hst
      repeat' ((with_reducible first | refine XBr.y fun h => ?_ | refine XBr.n fun h => ?_ | refine XBr.dec (fun h => ?_) fun h => ?_) <;> conv => whnf)
      rcases ho2 with ⟨rfl, hf1, hf2⟩ | ⟨x, rfl, hf⟩
      ·have hbb : ((l2.length : Int) == (i : Int)) = true := by rw [hll]; exact beq_self_eq_true _
       have hsl : (chsA l2).length = l2.length := List.length_map _
       apply Walk.drawX zb zg [] [] (hsK _) [_, _, _, .bool true, .bool true, _, _, _, _, _, _, _, _, _, _, _, _, _, _, _, _, _, _] (by kernel_rfl) rfl
       ·skip
        repeat' first | ((first | (with_reducible first | apply XBr.tt | refine XInt.a ?_ | apply Chk.go | apply ChkA.go) | (first | refine zh.a ?_ | refine XIx.a ?_ | refine XIx.b ?_)); conv => whnf) | (with_reducible first | apply XAnd.mk | exact trivial) | (exact zd.mk rfl rfl) | (exact zd.mk (congrArg AV.bool hbb) rfl) | ((rw [ha]; refine za.ret hg ?_); conv => whnf) | fail
       ·skip
        repeat' first | ((with_reducible first | apply ChkF.go | apply ChkB.go); conv => whnf) | (with_reducible first | apply XAnd.mk | exact trivial) | fail
       conv => whnf
       rw [hci]
       repeat' first | ((with_reducible first | refine XBr.y1 fun h => ?_ | refine XBr.n1 fun h => ?_ | refine XBr.beq (fun h => ?_) fun h => ?_ | refine XInt.a ?_) <;> conv => whnf) | (refine zh.a ?_; conv => whnf) | fail
       ·have h' : (v - (moB b i).r == k) = true := by rw [beq_iff_eq]; exact h
        rw [if_pos h'] at hst
        have hx1 := gL (hi := (moB b i).th) hltt hst
        rw [hf1] at hx1
        have hx2 := gL (hi := (moB b i).ph) hlts hx1
        rw [hf2] at hx2
        refine zp.go (st + 1, l2 ++ [((sp : Int), (st : Int))]) [.cells [natA sp, natA st]] ⟨by dsimp only; omega, by dsimp only; omega, .inr ⟨_, rfl, hx2⟩⟩ (by dsimp only; omega) ?_ ⟨rfl, rfl, rfl, rfl, rfl, ?_, rfl, trivial⟩
        ·show [Blk.grow _ (l2 ++ [_]).isEmpty ((l2 ++ [_]).map prA), _] ++ _ = _
         rw [zD, List.map_append]; rfl
        ·show some (AV.gr 0 (l2.length + 1)) = some (AV.gr 0 (l2 ++ [_]).length)
         rw [List.length_append]; rfl
       ·have h' : ¬ (v - (moB b i).r == k) = true := by rw [beq_iff_eq]; exact h
        rw [if_neg h'] at hst
        rw [gO hltt hst] at hf1
        exact zp.go (st + 1, l2) [.cells [natA sp, natA st]] ⟨by dsimp only; omega, by dsimp only; omega, .inl ⟨rfl, hf1, hf2⟩⟩ (by dsimp only; omega) rfl ⟨rfl, rfl, rfl, rfl, rfl, rfl, rfl, trivial⟩
      ·have hll2 : (l ++ [x]).length = i + 1 := by rw [List.length_append, hll]; rfl
       have hbb : (((l ++ [x]).length : Int) == (i : Int)) = false := by rw [hll2, beq_eq_false_iff_ne]; omega
       apply Walk.drawX zb zg [] [] (hsK _) [_, _, _, .bool false, .bool false, _, _, _, _, _, _, _, _, _, _, _, _, _, _, _, _, _, _] (by kernel_rfl) rfl
       ·skip
        repeat' first | ((with_reducible first | apply XBr.ff | apply Chk.go | apply ChkA.go); conv => whnf) | (with_reducible first | apply XAnd.mk | exact trivial) | (exact zd.mk rfl rfl) | ((refine zh.mk (List.length_map _) ?_); conv => whnf) | (exact zd.mk (congrArg AV.bool hbb) rfl) | fail
       ·skip
        repeat' first | ((with_reducible first | apply ChkF.go | apply ChkB.go); conv => whnf) | (with_reducible first | apply XAnd.mk | exact trivial) | fail
       conv => whnf
       repeat' ((with_reducible first | apply XBr.ff | refine XInt.a ?_); conv => whnf)
       exact zp.go (st + 1, l ++ [x]) [.cells [natA sp, natA st]] ⟨by dsimp only; omega, by dsimp only; omega, .inr ⟨x, rfl, hf⟩⟩ (by dsimp only; omega) rfl ⟨rfl, rfl, rfl, rfl, rfl, rfl, rfl, trivial⟩
     ·skip
      repeat' ((with_reducible first | refine XBr.y fun h => ?_ | refine XBr.n fun h => ?_ | refine XBr.dec (fun h => ?_) fun h => ?_ | refine XInt.a ?_) <;> conv => whnf)
      refine zp.go (sp + 1, l2) [] ⟨by dsimp only; omega, by dsimp only; omega, ?_⟩ (by dsimp only; omega) rfl ⟨rfl, rfl, rfl, rfl, rfl, rfl, trivial⟩
      rcases ho2 with ⟨rfl, hf1, hf2⟩ | ho2
      ·rw [zby (by omega)] at hf1
       rw [gO hlts hf1.symm] at hf2
       exact .inl ⟨rfl, hf2⟩
      ·exact .inr ho2
    ·rcases ho with ⟨rfl, hf⟩ | ⟨x, rfl, hf⟩
     ·rw [zby (by omega)] at hf
      rw [<- hf] at hkn
      have hd := zcU hkn (b.months.length - (i + 1))
      rw [show i + 1 + (b.months.length - (i + 1)) = b.months.length by omega] at hd
      rw [hd]
      repeat' first | ((with_reducible first | refine XBr.y fun h => ?_ | refine XBr.n fun h => ?_ | refine XBr.dec (fun h => ?_) fun h => ?_ | refine XBr.y1 fun h => ?_ | refine XBr.n1 fun h => ?_ | refine XBr.beq (fun h => ?_) fun h => ?_) <;> conv => whnf) | ((refine zh.mk (List.length_map _) ?_); conv => whnf) | fail
      exact ⟨.low rfl⟩
     ·rw [hf] at hkn
      have hll2 : (l ++ [x]).length = i + 1 := by rw [List.length_append, hll]; rfl
      repeat' first | ((with_reducible first | refine XBr.y fun h => ?_ | refine XBr.n fun h => ?_ | refine XBr.dec (fun h => ?_) fun h => ?_ | refine XBr.y1 fun h => ?_ | refine XBr.n1 fun h => ?_ | refine XBr.beq (fun h => ?_) fun h => ?_ | refine XInt.a ?_) <;> conv => whnf) | ((refine zh.mk (List.length_map _) ?_); conv => whnf) | fail
      exact zp.go (i + 1, l ++ [x]) [.cells (moC (moB b i))] ⟨by dsimp only; omega, hkn⟩ (by dsimp only; omega) rfl ⟨rfl, rfl, rfl, rfl, trivial⟩
   ·obtain rfl : i = b.months.length := by omega
    rw [hk]
    repeat' ((with_reducible first | refine XBr.y fun h => ?_ | refine XBr.n fun h => ?_ | refine XBr.dec (fun h => ?_) fun h => ?_) <;> conv => whnf)
    have hsl : (chsA l).length = l.length := List.length_map _
    exact ⟨Froz.tup (.cons (Froz.grow rfl hsl (zU _)) (.cons (.low rfl) .nil))⟩
 ·rw [if_pos hE]
  generalize zK b c = e at hco hE
  refine Comp.body (T := tab) (res := [.tmp 4, .tmp 5]) zb [] Tryz.func143 rfl (by kernel_rfl) Tryz.ntmps143 rfl (by simp only [List.length_cons, List.length_nil]; decide) (by simp only [lowL, bedL, AV.low, lowI]; rfl) ?_; conv => whnf
  repeat' first | ((with_reducible first | refine XBr.y2 fun h => ?_ | refine XBr.n2 fun h => ?_ | refine XBr.bne (fun h => ?_) fun h => ?_) <;> conv => whnf) | ((refine za.ret hco ?_); conv => whnf) | fail
  exact ⟨.low rfl⟩
end GA
end
section
namespace GA
open Go Go.RowKit Go.Proofs
theorem zcS (b : Bd) (nl : Bool) (c : List Int) (h1 : b.months.length <= 100000) (h2 : b.surveys.length <= 100000) (h3 : c.length <= 100000) : Comp Tryz.prog 141 [bedA b, .sl nl (ints c)] (kb b c) := by
 have hco := wx b nl c h1 h2 h3
 have hch := vZ b nl c h1 h2 h3
 unfold yu at hch
 unfold kb
 by_cases hE : zK b c = 0
 ·obtain ⟨ok, hl, hb⟩ := yS.1 hE
  have m1 := ok.m1
  have m2 := ok.m2
  have e2 : ((ints c).length : Int) = b.months.length + 1 := by rw [zm]; omega
  rw [hE] at hco
  rw [if_neg (fun h => h hE)] at hch ⊢
  unfold agrB
  cases hr : chR b c with
  | none =>
    rw [hr] at hch
    refine Comp.body (T := tab) (res := [.tmp 4, .tmp 5]) zb [] Tryz.func141 rfl (by kernel_rfl) Tryz.ntmps141 rfl (by simp only [List.length_cons, List.length_nil]; decide) (by simp only [lowL, bedL, AV.low, lowI]; rfl) ?_; conv => whnf
    repeat' first | ((with_reducible first | refine XBr.y2 fun h => ?_ | refine XBr.n2 fun h => ?_ | refine XBr.bne (fun h => ?_) fun h => ?_) <;> conv => whnf) | ((first | refine za.ret hco ?_ | refine za.ret hch ?_); conv => whnf) | fail
    exact ⟨.low rfl⟩
  | some l =>
    rw [hr] at hch
    show Comp _ _ _ (.tup [.bool (true && _), _])
    rw [Bool.true_and]
    have hcn := wY b true h2
    refine Comp.body (T := tab) (res := [.tmp 4, .tmp 5]) zb [] Tryz.func141 rfl (by kernel_rfl) Tryz.ntmps141 rfl (by simp only [List.length_cons, List.length_nil]; decide) (by simp only [lowL, bedL, AV.low, lowI]; rfl) ?_; conv => whnf
    repeat' first | ((with_reducible first | refine XBr.y2 fun h => ?_ | refine XBr.n2 fun h => ?_ | refine XBr.bne (fun h => ?_) fun h => ?_) <;> conv => whnf) | ((first | refine za.ret hco ?_ | refine za.ret hch ?_); conv => whnf) | fail
    refine Walk.loopK zb [] [(1, _), (2, _)] ⟨rfl, rfl, trivial⟩ (fun m : Nat => m <= b.months.length + 1 /\ ∀ j, j < m -> agB b alwP j (c.getD j default).toNat = true) (fun m => [(9, natA m)]) (fun _ => []) (fun m => b.months.length + 1 - m) 0 ⟨Nat.zero_le _, fun j hj => by omega⟩ rfl ⟨rfl, trivial⟩ ?_
    rintro m ⟨hm, hks⟩
    conv => whnf
    by_cases hlt : m < b.months.length + 1
    ·have hv := hb (c.getD m default) (zB (by omega))
     have hag := wA b false alwP m (c.getD m default).toNat h2
     have hvn : (((c.getD m default).toNat : Nat) : Int) = c.getD m default := by omega
     have hag' : Comp Tryz.prog 229 [bedA b, .sl false (bls b.surveys.length fun _ => true), natA m, .int .i64 (c.getD m default)] (.bool (agB b alwP m (c.getD m default).toNat)) := by rw [<- hvn] at hag ⊢; exact hag
     have hgo : agB b alwP m (c.getD m default).toNat = true -> ∀ j, j < m + 1 -> agB b alwP j (c.getD j default).toNat = true := fun h => kx hks h
     have hno : agB b alwP m (c.getD m default).toNat = false -> ((List.range (b.months.length + 1)).all fun m => agB b alwP m (c.getD m default).toNat) = false := fun h => by
      rw [List.all_eq_false]; exact ⟨m, List.mem_range.2 hlt, by rw [h]; simp⟩
     generalize agB b alwP m (c.getD m default).toNat = t at hag' hgo hno
     repeat' first | ((with_reducible first | refine XBr.y fun h => ?_ | refine XBr.n fun h => ?_ | refine XBr.dec (fun h => ?_) fun h => ?_ | refine XInt.a ?_ | apply Chk.go | apply ChkA.go | apply ChkF.go | apply ChkB.go | apply zw.mk) <;> conv => whnf) | (refine XIx.a ?_; conv => whnf) | (with_reducible first | apply XBr.not | apply XAnd.mk | exact trivial) | (exact zd.mk rfl rfl) | (apply Walk.drawN (id := 10) zb zg [] [] (hsU _) [_, _, _, _, _, _, _, _, _, _] (by kernel_rfl) rfl) | ((first | refine za.ret hcn ?_ | refine za.ret hag' ?_); conv => whnf) | ((with_reducible refine XBr.mk' (fun h => ?_) fun h => ?_) <;> conv => whnf) | fail
     ·exact zk.go (m + 1) ⟨by omega, hgo h⟩ (by omega) rfl ⟨rfl, rfl, rfl, trivial⟩
     ·rw [hno h]; exact ⟨.low rfl⟩
    ·obtain rfl : m = b.months.length + 1 := by omega
     repeat' ((with_reducible first | refine XBr.y fun h => ?_ | refine XBr.n fun h => ?_ | refine XBr.dec (fun h => ?_) fun h => ?_) <;> conv => whnf)
     rw [List.all_eq_true.2 fun x hx => hks x (List.mem_range.1 hx)]; exact ⟨.low rfl⟩
 ·rw [if_pos hE] at hch ⊢
  generalize zK b c = e at hco hch hE
  refine Comp.body (T := tab) (res := [.tmp 4, .tmp 5]) zb [] Tryz.func141 rfl (by kernel_rfl) Tryz.ntmps141 rfl (by simp only [List.length_cons, List.length_nil]; decide) (by simp only [lowL, bedL, AV.low, lowI]; rfl) ?_; conv => whnf
  repeat' first | ((with_reducible first | refine XBr.y2 fun h => ?_ | refine XBr.n2 fun h => ?_ | refine XBr.bne (fun h => ?_) fun h => ?_) <;> conv => whnf) | ((refine za.ret hco ?_); conv => whnf) | fail
  exact ⟨.low rfl⟩
set_option maxHeartbeats 2000000 in
theorem qn (b : Bd) (nl : Bool) (c : List Int) (_hx : c.length < 9223372036854775808) : Comp Tryz.prog 25 [bedA b, .sl nl (ints c)] (.bool true) := by
 have hgr := kK b
 have e2 : ((ints c).length : Int) = c.length := by rw [zm]
 cases hg : kE b
 case true =>
  refine Comp.body (T := tab) (res := [.tmp 4]) zb [] Tryz.func25 rfl (by kernel_rfl) Tryz.ntmps25 rfl (by simp only [List.length_cons, List.length_nil]; decide) (by simp only [lowL, bedL, AV.low, lowI]; rfl) ?_; conv => whnf
  repeat' first | ((first | (with_reducible apply XBr.tt) | ((refine za.ret hgr ?_); rw [hg]) | (refine za.ret zr ?_)); conv => whnf) | fail
  exact ⟨.low rfl⟩
 by_cases hp14 : 14 < c.length
 ·refine Comp.body (T := tab) (res := [.tmp 4]) zb [] Tryz.func25 rfl (by kernel_rfl) Tryz.ntmps25 rfl (by simp only [List.length_cons, List.length_nil]; decide) (by simp only [lowL, bedL, AV.low, lowI]; rfl) ?_; conv => whnf
  repeat' first | ((with_reducible first | apply XBr.ff | refine XBr.y fun h => ?_ | refine XBr.n fun h => ?_ | refine XBr.dec (fun h => ?_) fun h => ?_) <;> conv => whnf) | ((first | ((refine za.ret hgr ?_); rw [hg]) | (refine za.ret zr ?_)); conv => whnf) | fail
  exact ⟨.low rfl⟩
 obtain ⟨g1, g2⟩ := kO.1 hg
 have hs1 : (ownB b).months.length <= 100000 := show b.months.length <= 100000 by omega
 have hs2 : (ownB b).surveys.length <= 100000 := show b.surveys.length <= 100000 by omega
 have how := wv b (by omega) (by omega)
 have hth := kq b (by omega) (by omega)
 have hdu := dupC nl c (by omega)
 have hag := zca (ownB b) false c hs1 hs2 (by omega)
 have hra := zcS (thB b) nl c hs1 hs2 (by omega)
 have hch := zaz (ownB b) false c hs1 hs2 (by omega)
 have hrc := vZ (thB b) nl c hs1 hs2 (by omega)
 have hkk : ∀ k, chK (ownB b) c k = chK b c k /\ chK (thB b) c k = chK b c k := fun k => by
  induction k with
  | zero => exact ⟨rfl, rfl⟩
  | succ k ih => rw [chK, chK, chK, ih.1, ih.2]; exact ⟨rfl, rfl⟩
 have hR1 : chR (ownB b) c = chR b c := by unfold chR; rw [(hkk _).1]; rfl
 have hR2 : chR (thB b) c = chR b c := by unfold chR; rw [(hkk _).2]; rfl
 have hA1 : kb (ownB b) c = kb b c := by unfold kb agrB; rw [hR1]; rfl
 have hA2 : kb (thB b) c = kb b c := by unfold kb agrB; rw [hR2]; rfl
 have hC1 : yu (ownB b) c = yu b c := by unfold yu; rw [hR1]; rfl
 have hC2 : yu (thB b) c = yu b c := by unfold yu; rw [hR2]; rfl
 rw [hA1] at hag
 rw [hA2] at hra
 rw [hC1] at hch
 rw [hC2] at hrc
 have hsa := jL b (by omega) (by omega)
 have heq := kL false nl c c (by omega)
 rw [beq_self_eq_true] at heq
 have hta : ∃ r e, kb b c = .tup [.bool r, .int .i64 e] := by
  unfold kb
  split <;> exact ⟨_, _, rfl⟩
 obtain ⟨r, e, hta⟩ := hta
 have htc : ∃ nl' l e, yu b c = .tup [.sl nl' (chsA l), .int .i64 e] /\ l.length <= 100000 := by
  unfold yu
  split
  ·exact ⟨true, [], _, rfl, by simp⟩
  ·split
   ·exact ⟨true, [], _, rfl, by simp⟩
   ·rename_i l hl
    refine ⟨_, l, _, rfl, ?_⟩
    unfold chR at hl
    split at hl
    ·have := gR hl; omega
    ·cases hl
 obtain ⟨nl', l, e', htc, hll⟩ := htc
 rw [hta] at hag hra
 rw [htc] at hch hrc
 have hbb : (r != r) = false := by simp
 have hcd := fun nn => zaR nn l hll
 have heqc := fun n1 n2 => eq_rch n1 n2 l hll
 refine Comp.body (T := tab) (res := [.tmp 4]) zb [] Tryz.func25 rfl (by kernel_rfl) Tryz.ntmps25 rfl (by simp only [List.length_cons, List.length_nil]; decide) (by simp only [lowL, bedL, AV.low, lowI]; rfl) ?_; conv => whnf
 repeat' first | ((with_reducible first | apply XBr.ff | refine XBr.y fun h => ?_ | refine XBr.n fun h => ?_ | refine XBr.dec (fun h => ?_) fun h => ?_) <;> conv => whnf) | (((refine za.ret hgr ?_); rw [hg]); conv => whnf) | fail
 refine Walk.place (Walk.place ?_)
 apply Walk.drawX zb zg [] [6, 7, 8, 10] (fun fl => match fl with
  | [a, b', x, y] => [(bif a then .cells (bif x then bedC (ownB b) else bzero) else .free), (bif b' then .cells (bif y then bedC (thB b) else bzero) else .free)]
  | _ => []) [_, _, _, _, _, _, .ptr 0 0, .ptr 1 0, _, _, _] (by kernel_rfl) rfl
 ·skip
  repeat' first | ((with_reducible first | apply Chk.go | apply ChkA.go); conv => whnf) | (with_reducible first | apply XAnd.mk | exact trivial) | (exact zd.mk rfl rfl) | ((first | refine za.ret how ?_ | refine za.ret hth ?_ | refine za.ret hdu ?_); conv => whnf) | (first | ((refine zq.at 0 rfl ?_); (conv => whnf); exact zd.mk rfl rfl) | ((refine zq.at 1 rfl ?_); (conv => whnf); exact zd.mk rfl rfl)) | fail
 ·skip
  repeat' first | ((with_reducible first | apply Chk.go | apply ChkF.go | apply ChkB.go); conv => whnf) | (with_reducible first | apply XAnd.mk | exact trivial) | (exact zd.mk rfl rfl) | ((first | refine za.ret how ?_ | refine za.ret hth ?_ | refine za.ret hdu ?_); conv => whnf) | (first | ((refine zq.at 0 rfl ?_); (conv => whnf); exact zd.mk rfl rfl) | ((refine zq.at 1 rfl ?_); (conv => whnf); exact zd.mk rfl rfl)) | fail
 conv => whnf
 repeat' first | ((with_reducible first | apply XBr.tt | apply XBr.ff | refine XBr.y1 fun h => ?_ | refine XBr.n1 fun h => ?_ | refine XBr.beq (fun h => ?_) fun h => ?_ | refine XBr.y2 fun h => ?_ | refine XBr.n2 fun h => ?_ | refine XBr.bne (fun h => ?_) fun h => ?_) <;> conv => whnf) | ((first | refine za.ret hag ?_ | refine za.ret hra ?_ | refine za.ret hch ?_ | refine za.ret hrc ?_ | (with_reducible refine XBr.no hbb ?_) | refine za.ret (hcd _) ?_ | refine za.ret (heqc _ _) ?_ | refine za.ret hsa ?_ | refine za.ret heq ?_ | refine za.ret zr ?_); conv => whnf) | fail
 all_goals first | exact ⟨.low rfl⟩ | (exfalso; simp at h; done)
end GA
end
section
namespace GA
open Go Go.RowKit Go.Proofs
theorem asked04_c (b : Bd) (month amount : Int) (c : Int × Int) (n1 n2 : Bool) (course plan : List Int) (share : Int) (h1 : course.length < 9223372036854775808) (h2 : plan.length < 9223372036854775808) :
  Comp Tryz.prog 17 [bedA b, .int .i64 month, .int .i64 amount, prA c, .sl n1 (ints course), .sl n2 (ints plan), .int .i64 share] (.bool true) := by
 have a1 := gv b month amount c
 have a2 := zcL b month amount
 have a3 := qn b n1 course h1
 have a4 := zdX b
 have a5 := fE b n2 plan share h2
 have a6 := bedMost_c b share
 have a7 := gl b n1 course share h1
 refine Comp.body (T := tab) (res := [.tmp 14]) zb [] Tryz.func17 rfl (by kernel_rfl) Tryz.ntmps17 rfl (by simp only [List.length_cons, List.length_nil]; decide) (by simp only [lowL, bedL, AV.low, lowI]; rfl) ?_; conv => whnf
 skip
 refine Walk.norm zb [] [(1, _), (2, _), (4, _), (5, _), (6, _), (7, _), (10, _)] ⟨rfl, rfl, rfl, rfl, rfl, rfl, rfl, trivial⟩ ?_
 conv => whnf
 repeat' first | ((first | (with_reducible apply XBr.tt) | (first | refine za.ret a1 ?_ | refine za.ret a2 ?_ | refine za.ret a3 ?_ | refine za.ret a4 ?_ | refine za.ret a5 ?_ | refine za.ret a6 ?_ | refine za.ret a7 ?_)); conv => whnf) | fail
 all_goals exact XOut.bool rfl
end GA
end
section
namespace GA
open Go Go.RowKit Go.Proofs
theorem zdl {b : Bd} (ok : BdOk b) {m n : Nat} (h : zH (addS b m n) alwP = false) : zK b (crL (addS b m n) (b.months.length + 1)) = 0 := by
 have hc := cr_crs (zbY ok.toBedOk m n) h
 refine yS.2 ⟨ok, zj _ _, fun x hx => ?_⟩
 obtain ⟨i, hi, rfl⟩ := yQ.1 hx
 have := hc.rm i (by show i <= b.months.length; omega)
 exact ⟨by omega, this⟩
end GA
end
section
namespace GA
open Go Go.RowKit Go.Proofs
theorem lawsB : zaX where
 asked b month amount c n1 n2 course plan share h1 h2 := asked04_c b month amount c n1 n2 course plan share (by omega) (by omega)
 months := gv
 can := zcL
 keeps b nl plan share h := fE b nl plan share (by omega)
 floors b nl floor share h := gl b nl floor share (by omega)
 courses b nl c h := qn b nl c (by omega)
theorem zc7 {b : Bd} {share : Int} : ∀ (k q : Nat) (xs : List Int), okP b share k q xs -> xs.length = k
 | 0, _, _, h => by rw [h.1]; rfl
 | _ + 1, _, [], h => h.elim
 | k + 1, q, x :: xs, h => by rw [List.length_cons, zc7 k _ xs h.2.2]
theorem givesB : GivesB where
 course b hE hw m n hm0 hm hn0 hn := by
  have ok := (zz b).1 hE
  have m2 := ok.m2
  have s1 := ok.s1
  have r2 := ok.r2
  obtain ⟨i, rfl⟩ : ∃ i : Nat, m = i := ⟨m.toNat, by omega⟩
  obtain ⟨j, rfl⟩ : ∃ j : Nat, n = j := ⟨n.toNat, by omega⟩
  have q1 : inZ (i : Int) 0 b.months.length = true := zx.2 ⟨hm0, hm⟩
  have q2 : inZ (j : Int) 0 b.room = true := zx.2 ⟨hn0, hn⟩
  cases hno : zH (addS b i j) alwP with
  | true =>
    have hc := zc4 b (by omega) (by omega) hw (i : Int) (j : Int)
    unfold k0 at hc
    rw [if_neg (by rw [hE]; decide), if_neg (by rw [q1]; decide), if_neg (by rw [q2]; decide), Int.toNat_natCast, Int.toNat_natCast, if_pos hno] at hc
    exact .inl ⟨_, hc⟩
  | false =>
    have hg := course_g b hE hw i j q1 q2 hno
    have hcr := (yS.1 (zdl ok hno)).2
    have hl : (crL (addS b i j) (b.months.length + 1)).length = b.months.length + 1 := zj _ _
    exact .inr ⟨_, by omega, by omega, fun x hx => by have := hcr.2 x hx; omega, hg⟩
 most b hE n hn0 hn := by
  have ok := (zz b).1 hE
  have m1 := ok.m1
  have m2 := ok.m2
  have r2 := ok.r2
  by_cases hv : valM b n b.months.length (zn b).toNat = -1
  ·have hc := mostS_c b n hE ⟨hn0, hn⟩
   unfold zaj at hc
   rw [if_pos hv] at hc
   exact .inl ⟨_, hc⟩
  ·have hg := most_g b n hE ⟨hn0, hn⟩ hv
   have hl := zc7 _ _ _ ((ga ok.toBedOk n b.months.length (Nat.le_refl _) (zn b).toNat).1 hv).1
   have hb := (w0 ok.toBedOk n b.months.length (Nat.le_refl _) (zn b).toNat).1
   generalize zV b n b.months.length (zn b).toNat = l at hg hl hb
   have he : l.isEmpty = false := by cases l with | nil => simp at hl; omega | cons _ _ => rfl
   rw [he] at hg
   exact .inr ⟨l, by omega, by omega, fun x hx => by have := hb x hx; omega, hg⟩
theorem zdJ : Comp Tryz.prog 4 [] (.bool true) := zdj lawsB givesB
end GA
end
