/- Part 7 of a proof: F22, F23, F24, F32, F25, F26, F27, F30, F31, F33. -/
import Derived.Test.YtdeocemmlagnhaaGreatP6
set_option linter.unusedVariables false
set_option linter.unusedSimpArgs false
set_option maxRecDepth 8000
section
namespace GA
open Go Go.RowKit Go.Proofs
theorem zX (n lo hi : Int) : Comp Tryz.prog 235 [.int .i64 n,.int .i64 lo,.int .i64 hi] (.bool (!inZ n lo hi)):=by
 refine Comp.body (T:=tab) (res:=[.tmp 6]) za [] Tryz.func235 rfl (by kernel_rfl) Tryz.ntmps235 rfl (by simp only [List.length_cons,List.length_nil];decide) (by rfl) ?_;conv=>whnf
 repeat' ((with_reducible first|apply XBr.tt|apply XBr.ff|refine XBr.y fun h=>?_|refine XBr.n fun h=>?_|refine XBr.dec (fun h=>?_) fun h=>?_) <;> conv=>whnf)
 all_goals (refine XOut.bool ?_;rw [Bool.eq_iff_iff];simp [inZ];try omega)
theorem leads_c (w : Wy) (p q : Int) : Comp Tryz.prog 236 [wyA w,.int .i64 p,.int .i64 q] (.bool (yh w p q)):=by
 refine Comp.body (T:=tab) (res:=[.tmp 6]) za [] Tryz.func236 rfl (by kernel_rfl) Tryz.ntmps236 rfl (by simp only [List.length_cons,List.length_nil];decide) (by rfl) ?_;conv=>whnf
 refine Walk.norm za [] [(1,_),(2,_),(3,_)] ⟨rfl,rfl,rfl,trivial⟩ ?_
 conv=>whnf
 repeat' first|((with_reducible first|apply XBr.tt|apply XBr.ff|refine XBr.y1 fun h=>?_|refine XBr.n1 fun h=>?_|refine XBr.beq (fun h=>?_) fun h=>?_) <;> conv=>whnf)|((first|(with_reducible apply XArr.pim0)|(with_reducible apply XArr.pim1));conv=>whnf)|fail
 all_goals (refine XOut.bool ?_;unfold yh;simp_all)
theorem rIs_c (a t : Nat) (ha : a <= 1000000) (ht : t <= 1000) : Comp Tryz.prog 242 [natA a,natA t] (.bool (a.testBit t)):=by
 refine Comp.body (T:=tab) (res:=[.tmp 4]) za [] Tryz.func242 rfl (by kernel_rfl) Tryz.ntmps242 rfl (by simp only [List.length_cons,List.length_nil];decide) (by rfl) ?_;conv=>whnf
 skip
 refine Walk.loopK za [] [(1,_),(4,_)] ⟨rfl,rfl,trivial⟩ (fun k : Nat=>k <= t) (fun k=>[(0,natA (a / 2 ^ k)),(5,natA k)]) (fun _=>[]) (fun k=>t - k) 0 (Nat.zero_le _) rfl ⟨by show some (natA a) = some (natA (a / 2 ^ 0));simp,rfl,trivial⟩ ?_
 intro k hk
 have hv : a / 2 ^ k <= a:=Nat.div_le_self _ _
 have hnx : a / 2 ^ (k + 1) = a / 2 ^ k / 2:=by rw [Nat.pow_succ,Nat.div_div_eq_div_mul]
 have hend : k = t -> a.testBit t = decide (a / 2 ^ k % 2 = 1):=fun h=>by rw [<- h,Nat.testBit_eq_decide_div_mod_eq]
 generalize a / 2 ^ k = v at hv hnx hend
 have q1 : (v : Int).tdiv 2 = ((v / 2 : Nat) : Int):=by rw [Int.tdiv_eq_ediv_of_nonneg (by omega)];omega
 have q2 : (v : Int).tmod 2 = ((v % 2 : Nat) : Int):=by rw [Int.tmod_eq_emod_of_nonneg (by omega)];omega
 conv=>whnf
 by_cases hlt : k < t
 ·skip
  repeat' first|((with_reducible first|refine XBr.y fun h=>?_|refine XBr.n fun h=>?_|refine XBr.dec (fun h=>?_) fun h=>?_|refine XInt.a ?_) <;> conv=>whnf)|(refine zh.a ?_;conv=>whnf)|fail
  exact zj.go (k + 1) (by omega) (by omega) rfl ⟨rfl,rfl,(by rw [hnx];rfl),rfl,trivial⟩
 obtain rfl : k = t:=by omega
 rw [hend rfl]
 repeat' first|((with_reducible first|refine XBr.y fun h=>?_|refine XBr.n fun h=>?_|refine XBr.dec (fun h=>?_) fun h=>?_) <;> conv=>whnf)|(refine zh.a ?_;conv=>whnf)|fail
 all_goals (refine XOut.bool ?_;rw [Bool.eq_iff_iff];simp [q2];try omega)
theorem rOne_c (t : Nat) (ht : t <= 40) : Comp Tryz.prog 244 [natA t] (natA (2 ^ t)):=by
 refine Comp.body (T:=tab) (res:=[.tmp 2]) za [] Tryz.func244 rfl (by kernel_rfl) Tryz.ntmps244 rfl (by simp only [List.length_cons,List.length_nil];decide) (by rfl) ?_;conv=>whnf
 skip
 refine Walk.loopK za [] [(0,_),(2,_)] ⟨rfl,rfl,trivial⟩ (fun k : Nat=>k <= t) (fun k=>[(3,natA (2 ^ k)),(4,natA k)]) (fun _=>[]) (fun k=>t - k) 0 (Nat.zero_le _) rfl ⟨rfl,rfl,trivial⟩ ?_
 intro k hk
 have hp : 2 ^ k <= 2 ^ 40:=Nat.pow_le_pow_right (by omega) (by omega)
 have hnx : 2 ^ (k + 1) = 2 * 2 ^ k:=by rw [Nat.pow_succ,Nat.mul_comm]
 have hend : k = t -> 2 ^ k = 2 ^ t:=fun h=>by rw [h]
 have h40 : (2 : Nat) ^ 40 = 1099511627776:=by decide
 rw [h40] at hp
 generalize 2 ^ k = v at hp hnx hend
 conv=>whnf
 by_cases hlt : k < t
 ·skip
  repeat' ((with_reducible first|refine XBr.y fun h=>?_|refine XBr.n fun h=>?_|refine XBr.dec (fun h=>?_) fun h=>?_|refine XInt.a ?_) <;> conv=>whnf)
  exact zj.go (k + 1) (by omega) (by omega) rfl ⟨rfl,rfl,(by rw [hnx];exact congrArg (fun z=>some (AV.int .i64 z)) (by omega)),rfl,trivial⟩
 obtain rfl : k = t:=by omega
 rw [<- hend rfl]
 repeat' ((with_reducible first|refine XBr.y fun h=>?_|refine XBr.n fun h=>?_|refine XBr.dec (fun h=>?_) fun h=>?_) <;> conv=>whnf)
 exact XOut.int rfl
theorem qI (s : Sn) (hT : s.truths.length <= 10) : Comp Tryz.prog 70 [rsA s] (natA (allN s)):=by
 have e3 : ((s.truths.map tdA).length : Int) = s.truths.length:=by rw [List.length_map]
 refine Comp.body (T:=tab) (res:=[.tmp 2]) za [] Tryz.func70 rfl (by kernel_rfl) Tryz.ntmps70 rfl (by simp only [List.length_cons,List.length_nil];decide) (by simp only [lowL,rsL];rfl) ?_;conv=>whnf
 skip
 refine Walk.loopK za [] [(1,_),(2,_)] ⟨rfl,rfl,trivial⟩ (fun k : Nat=>k <= s.truths.length) (fun k=>[(3,natA (2 ^ k)),(4,natA k)]) (fun _=>[]) (fun k=>s.truths.length - k) 0 (Nat.zero_le _) rfl ⟨rfl,rfl,trivial⟩ ?_
 intro k hk
 have hp : 2 ^ k <= 2 ^ 10:=Nat.pow_le_pow_right (by omega) (by omega)
 have hp0 : 0 < 2 ^ k:=Nat.two_pow_pos _
 have hnx : 2 ^ (k + 1) = 2 * 2 ^ k:=by rw [Nat.pow_succ,Nat.mul_comm]
 have hend : k = s.truths.length -> allN s = 2 ^ k - 1:=fun h=>by rw [h];rfl
 generalize 2 ^ k = v at hp hp0 hnx hend
 conv=>whnf
 by_cases hlt : k < s.truths.length
 ·skip
  repeat' ((with_reducible first|refine XBr.y fun h=>?_|refine XBr.n fun h=>?_|refine XBr.dec (fun h=>?_) fun h=>?_|refine XInt.a ?_) <;> conv=>whnf)
  exact zj.go (k + 1) (by omega) (by omega) rfl ⟨rfl,rfl,(by rw [hnx];exact congrArg (fun z=>some (AV.int .i64 z)) (by omega)),rfl,trivial⟩
 obtain rfl : k = s.truths.length:=by omega
 rw [hend rfl]
 repeat' ((with_reducible first|refine XBr.y fun h=>?_|refine XBr.n fun h=>?_|refine XBr.dec (fun h=>?_) fun h=>?_|refine XInt.a ?_) <;> conv=>whnf)
 exact XOut.int (by omega)
theorem rWet_c (s : Sn) (hb : SnB s) (t p m : Nat) (ht : t < s.truths.length) (hp : p < (s.truths.getD t default).2.length) : Comp Tryz.prog 243 [rsA s,natA t,natA p,natA m] (.bool (!dryT s t p m)):=by
 have hlen:=hb.sl _ (zk (d:=default) ht) _ (zk (d:=default) hp)
 have e5 : ((((s.truths.getD t default).2.getD p default).2.map sgA).length : Int) = ((s.truths.getD t default).2.getD p default).2.length:=by rw [List.length_map]
 have hdef : dryT s t p m = ((s.truths.getD t default).2.getD p default).2.any fun x=>inZ m x.1 x.2:=rfl
 rw [hdef]
 refine Comp.body (T:=tab) (res:=[.tmp 8]) za [] Tryz.func243 rfl (by kernel_rfl) Tryz.ntmps243 rfl (by simp only [List.length_cons,List.length_nil];decide) (by simp only [lowL,AV.low,rsL];rfl) ?_;conv=>whnf
 repeat' (refine XIx.a ?_;conv=>whnf)
 generalize (s.truths.getD t default).2.getD p default = r at hlen e5
 refine Walk.loopK za [] [(3,_),(9,_)] ⟨rfl,rfl,trivial⟩ (fun k : Nat=>k <= r.2.length /\ ∀ j,j < k -> inZ m (r.2.getD j default).1 (r.2.getD j default).2 = false) (fun k=>[(8,.bool false),(10,natA k)]) (fun _=>[]) (fun k=>r.2.length - k) 0 ⟨Nat.zero_le _,fun j hj=>by omega⟩ rfl ⟨rfl,rfl,trivial⟩ ?_
 rintro k ⟨hk,hs⟩
 conv=>whnf
 by_cases hlt : k < r.2.length
 ·cases hb : inZ m (r.2.getD k default).1 (r.2.getD k default).2 with
  | true =>
    repeat' first|((with_reducible first|apply XBr.tt|refine XBr.y fun h=>?_|refine XBr.n fun h=>?_|refine XBr.dec (fun h=>?_) fun h=>?_|apply Chk.go|apply ChkA.go|apply ChkF.go|apply ChkB.go|apply zq.mk) <;> conv=>whnf)|(refine XIx.a ?_;conv=>whnf)|(with_reducible first|apply XBr.not|apply XAnd.mk|exact trivial)|(exact zg.mk rfl rfl)|(apply Walk.drawN (id:=5) za zd [] [] (hsU _) [_,_,_,_,_,_,_,_,_,_,_,_,_] (by kernel_rfl) rfl)|(((refine zb.ret (zX _ _ _) ?_);rw [hb]);conv=>whnf)|fail
    rw [List.any_eq_true.2 ⟨_,zk (d:=default) hlt,hb⟩]
    exact XOut.bool rfl
  | false =>
    repeat' first|((with_reducible first|apply XBr.ff|refine XBr.y fun h=>?_|refine XBr.n fun h=>?_|refine XBr.dec (fun h=>?_) fun h=>?_|refine XInt.a ?_|apply Chk.go|apply ChkA.go|apply ChkF.go|apply ChkB.go|apply zq.mk) <;> conv=>whnf)|(refine XIx.a ?_;conv=>whnf)|(with_reducible first|apply XBr.not|apply XAnd.mk|exact trivial)|(exact zg.mk rfl rfl)|(apply Walk.drawN (id:=5) za zd [] [] (hsU _) [_,_,_,_,_,_,_,_,_,_,_,_,_] (by kernel_rfl) rfl)|(((refine zb.ret (zX _ _ _) ?_);rw [hb]);conv=>whnf)|fail
    refine zj.go (k + 1) ⟨by omega,fun j hj=>?_⟩ (by omega) rfl ⟨rfl,rfl,rfl,rfl,trivial⟩
    by_cases e : j = k
    ·subst e;exact hb
    ·exact hs j (by omega)
 obtain rfl : k = r.2.length:=by omega
 have q : r.2.any (fun x=>inZ m x.1 x.2) = false:=by
  rw [List.any_eq_false]
  intro x hx
  obtain ⟨j,hj,rfl⟩:=List.mem_iff_getElem.1 hx
  have:=hs j hj
  rw [List.getD_eq_getElem?_getD,List.getElem?_eq_getElem hj] at this
  simpa using this
 rw [q]
 clear hs
 repeat' ((with_reducible first|refine XBr.y fun h=>?_|refine XBr.n fun h=>?_|refine XBr.dec (fun h=>?_) fun h=>?_) <;> conv=>whnf)
 exact XOut.bool rfl
theorem rDry_c (s : Sn) (hb : SnB s) (ok : SnOk s) (p m : Nat) (hp : (p : Int) < s.places) : Comp Tryz.prog 69 [rsA s,natA p,natA m] (natA (drN s p m)):=by
 have t2:=ok.t2
 have e3 : ((s.truths.map tdA).length : Int) = s.truths.length:=by rw [List.length_map]
 refine Comp.body (T:=tab) (res:=[.tmp 6]) za [] Tryz.func69 rfl (by kernel_rfl) Tryz.ntmps69 rfl (by simp only [List.length_cons,List.length_nil];decide) (by simp only [lowL,AV.low,rsL];rfl) ?_;conv=>whnf
 skip
 refine Walk.loopK za [] [(1,_),(2,_),(3,_),(6,_)] ⟨rfl,rfl,rfl,rfl,trivial⟩ (fun k : Nat=>k <= s.truths.length) (fun k=>[(7,natA (bsum (fun t=>dryT s t p m) k)),(8,natA k)]) (fun _=>[]) (fun k=>s.truths.length - k) 0 (Nat.zero_le _) rfl ⟨rfl,rfl,trivial⟩ ?_
 intro k hk
 have hl : bsum (fun t=>dryT s t p m) k < 2 ^ k:=jl _ _
 have hp2 : 2 ^ k <= 2 ^ 4:=Nat.pow_le_pow_right (by omega) (by omega)
 have hnx : bsum (fun t=>dryT s t p m) (k + 1) = bsum (fun t=>dryT s t p m) k + if dryT s k p m = true then 2 ^ k else 0:=rfl
 have hend : k = s.truths.length -> bsum (fun t=>dryT s t p m) k = drN s p m:=fun h=>by rw [h];rfl
 generalize bsum (fun t=>dryT s t p m) k = v at hl hnx hend
 conv=>whnf
 by_cases hlt : k < s.truths.length
 ·have hw:=rWet_c s hb k p m hlt (by have:=ok.tl _ (zk (d:=default) hlt);omega)
  have ho:=rOne_c k (by omega)
  generalize 2 ^ k = q at hl hp2 hnx ho
  cases hd : dryT s k p m with
  | true =>
    rw [hd] at hw hnx
    repeat' first|((with_reducible first|apply XBr.tt|refine XBr.y fun h=>?_|refine XBr.n fun h=>?_|refine XBr.dec (fun h=>?_) fun h=>?_|refine XInt.a ?_) <;> conv=>whnf) | with_reducible apply XBr.not|((first|refine zb.ret hw ?_|refine zb.ret ho ?_);conv=>whnf)|fail
    exact zj.go (k + 1) (by omega) (by omega) rfl ⟨rfl,rfl,rfl,rfl,(by rw [hnx,if_pos rfl];exact congrArg (fun z=>some (AV.int .i64 z)) (by omega)),rfl,trivial⟩
  | false =>
    rw [hd] at hw hnx
    repeat' first|((with_reducible first|apply XBr.ff|refine XBr.y fun h=>?_|refine XBr.n fun h=>?_|refine XBr.dec (fun h=>?_) fun h=>?_|refine XInt.a ?_) <;> conv=>whnf) | with_reducible apply XBr.not|((refine zb.ret hw ?_);conv=>whnf)|fail
    exact zj.go (k + 1) (by omega) (by omega) rfl ⟨rfl,rfl,rfl,rfl,(by rw [hnx,if_neg (by simp)];rfl),rfl,trivial⟩
 obtain rfl : k = s.truths.length:=by omega
 rw [<- hend rfl]
 repeat' ((with_reducible first|refine XBr.y fun h=>?_|refine XBr.n fun h=>?_|refine XBr.dec (fun h=>?_) fun h=>?_) <;> conv=>whnf)
 exact XOut.int rfl
end GA
end
section
namespace GA
open Go Go.RowKit Go.Proofs
theorem gD (s : Sn) (ok : SnOk s) (p left : Nat) (hp : (p : Int) < s.places) (hl : left <= 1000) : Comp Tryz.prog 71 [rsA s,natA p,natA left] (nsA (zC s p left)):=by
 have p2:=ok.p2;have k1:=ok.k1;have t2:=ok.t2
 have e1 : ((s.looks.map rwA).length : Int) = s.looks.length:=by rw [List.length_map]
 refine Comp.body (T:=tab) (res:=[.tmp 6]) za [] Tryz.func71 rfl (by kernel_rfl) Tryz.ntmps71 rfl (by simp only [List.length_cons,List.length_nil];decide) (by simp only [lowL,AV.low,rsL];rfl) ?_;conv=>whnf
 skip
 refine Walk.nilgr 7 3 rfl ?_
 refine Walk.loopGK za [] [(1,_),(2,_),(3,_),(6,_)] ⟨rfl,rfl,rfl,rfl,trivial⟩ (fun n : Nat=>n <= 4) (fun n=>[(7,.gr 0 (zJ s p left n).length),(8,natA n)]) (fun n=>[.grow 3 (zJ s p left n).isEmpty ((zJ s p left n).map natA)]) (fun n=>4 - n) 0 (by omega) rfl ⟨rfl,rfl,trivial⟩ ?_ (fun _ _=>(show (1 : Nat) <= 1 from Nat.le_refl 1)) ?_
 ·intro n _
  refine ⟨fun z hz=>?_,fun z hz=>?_⟩
  ·rw [List.mem_singleton] at hz;subst hz;exact nsL _
  ·simp only [List.cons_append,List.nil_append,List.mem_cons,List.not_mem_nil,or_false] at hz
   rcases hz with rfl | rfl | rfl | rfl | rfl | rfl <;> first | rfl|exact rsCL s
 intro n hn
 have hlen : (zJ s p left n).length <= n:=by
  clear hn
  induction n with
  | zero=>exact Nat.le_refl _
  | succ n ih=>rw [zJ,List.length_append];split <;> simp only [List.length_cons,List.length_nil] <;> omega
 have hnx : zJ s p left (n + 1) = zJ s p left n ++ if partN s p left n = 0 then [] else [partN s p left n]:=rfl
 have hend : n = 4 -> zJ s p left n = zC s p left:=fun h=>by rw [h];rfl
 generalize zJ s p left n = R at hlen hnx hend
 have hRl : (R.map natA).length = R.length:=List.length_map _
 conv=>whnf
 by_cases hlt : n < 4
 ·skip
  repeat' ((with_reducible first|refine XBr.y fun h=>?_|refine XBr.n fun h=>?_|refine XBr.dec (fun h=>?_) fun h=>?_) <;> conv=>whnf)
  refine Walk.loopK za [] [(1,_),(2,_),(3,_),(6,_),(7,_),(8,_)] ⟨rfl,rfl,rfl,rfl,rfl,rfl,trivial⟩ (fun i : Nat=>i <= s.looks.length) (fun i=>[(9,natA (ky s p left n i)),(10,natA i)]) (fun _=>[.grow 3 R.isEmpty (R.map natA)]) (fun i=>s.looks.length - i) 0 (Nat.zero_le _) rfl ⟨rfl,rfl,trivial⟩ ?_
  intro i hi
  conv=>whnf
  by_cases hlt2 : i < s.looks.length
  ·have hll:=ok.kl _ (zk (d:=default) hlt2)
   have hlk : ko s i p = (s.looks.getD i default).2.getD p default:=rfl
   have b1:=zcp s p left n i
   have b2 : 2 ^ i <= 2 ^ 4:=Nat.pow_le_pow_right (by omega) (by omega)
   have hnx2 : ky s p left n (i + 1) = ky s p left n i + if (ko s i p == (n : Int) && left.testBit i) = true then 2 ^ i else 0:=rfl
   have his:=rIs_c left i (by omega) (by omega)
   have ho:=rOne_c i (by omega)
   generalize ky s p left n i = v at b1 hnx2
   generalize 2 ^ i = q at b1 b2 hnx2 ho
   by_cases hc : left.testBit i = true /\ ko s i p = (n : Int)
   ·have h2 : ky s p left n (i + 1) = v + q:=by rw [hnx2,if_pos (by rw [hc.1,hc.2];simp)]
    have h3:=hc.2
    rw [hlk] at h3
    rw [hc.1] at his
    repeat' first|((with_reducible first|apply XBr.tt|refine XBr.y fun h=>?_|refine XBr.n fun h=>?_|refine XBr.dec (fun h=>?_) fun h=>?_|refine XBr.y1 fun h=>?_|refine XBr.n1 fun h=>?_|refine XBr.beq (fun h=>?_) fun h=>?_|refine XInt.a ?_) <;> conv=>whnf)|((first|refine XIx.a ?_|refine zb.ret his ?_|refine zb.ret ho ?_);conv=>whnf)|fail
    exact zj.go (i + 1) (by omega) (by omega) rfl ⟨rfl,rfl,rfl,rfl,rfl,rfl,(by rw [h2];exact congrArg (fun z=>some (AV.int .i64 z)) (by omega)),rfl,trivial⟩
   ·have h2 : ky s p left n (i + 1) = v:=by
     rw [hnx2,if_neg (fun h=>hc ?_)];· rfl
     simp only [Bool.and_eq_true,beq_iff_eq] at h
     exact ⟨h.2,h.1⟩
    cases hb1 : left.testBit i with
    | false =>
      rw [hb1] at his
      repeat' first|((with_reducible first|apply XBr.ff|refine XBr.y fun h=>?_|refine XBr.n fun h=>?_|refine XBr.dec (fun h=>?_) fun h=>?_|refine XInt.a ?_) <;> conv=>whnf)|((refine zb.ret his ?_);conv=>whnf)|fail
      exact zj.go (i + 1) (by omega) (by omega) rfl ⟨rfl,rfl,rfl,rfl,rfl,rfl,(by rw [h2];rfl),rfl,trivial⟩
    | true =>
      rw [hb1] at his hc
      have h3 : ¬ ko s i p = (n : Int):=fun e=>hc ⟨rfl,e⟩
      rw [hlk] at h3
      repeat' first|((with_reducible first|apply XBr.tt|refine XBr.y fun h=>?_|refine XBr.n fun h=>?_|refine XBr.dec (fun h=>?_) fun h=>?_|refine XBr.y1 fun h=>?_|refine XBr.n1 fun h=>?_|refine XBr.beq (fun h=>?_) fun h=>?_|refine XInt.a ?_) <;> conv=>whnf)|((first|refine XIx.a ?_|refine zb.ret his ?_);conv=>whnf)|fail
      exact zj.go (i + 1) (by omega) (by omega) rfl ⟨rfl,rfl,rfl,rfl,rfl,rfl,(by rw [h2];rfl),rfl,trivial⟩
  obtain rfl : i = s.looks.length:=by omega
  have hpN : ky s p left n s.looks.length = partN s p left n:=rfl
  rw [hpN]
  generalize partN s p left n = v at hnx
  repeat' first|((with_reducible first|refine XBr.y fun h=>?_|refine XBr.n fun h=>?_|refine XBr.dec (fun h=>?_) fun h=>?_|refine XInt.a ?_) <;> conv=>whnf)|(refine zh.a ?_;conv=>whnf)|fail
  ·have hx : zJ s p left (n + 1) = R ++ [v]:=by rw [hnx,if_neg (by omega)]
   refine zl.go (n + 1) [] (by omega) (by omega) ?_ ⟨rfl,rfl,rfl,rfl,(by show some (AV.gr 0 (R.length + 1)) = _;rw [hx,List.length_append];rfl),rfl,trivial⟩
   show [Blk.grow _ (zJ s p left (n + 1)).isEmpty ((zJ s p left (n + 1)).map natA)] ++ [] = _
   rw [hx,zy,List.map_append];rfl
  ·have hx : zJ s p left (n + 1) = R:=by rw [hnx,if_pos (by omega),List.append_nil]
   refine zl.go (n + 1) [] (by omega) (by omega) ?_ ⟨rfl,rfl,rfl,rfl,(by rw [hx];rfl),rfl,trivial⟩
   show [Blk.grow _ (zJ s p left (n + 1)).isEmpty ((zJ s p left (n + 1)).map natA)] ++ [] = _
   rw [hx];rfl
 obtain rfl : n = 4:=by omega
 rw [<- hend rfl]
 repeat' ((with_reducible first|refine XBr.y fun h=>?_|refine XBr.n fun h=>?_|refine XBr.dec (fun h=>?_) fun h=>?_) <;> conv=>whnf)
 exact ⟨Froz.grow rfl hRl (nsL _)⟩
theorem safe_ref {s : Sn} (ok : SnOk s) {x : Sta} (hl : x.l <= allN s) : zW s x = (x.l != 0 && !((List.range s.truths.length).any fun t=>x.l.testBit t && !dryT s t x.p x.m)):=by
 rw [Bool.eq_iff_iff,safeB_iff,Bool.and_eq_true,bne_iff_ne]
 refine and_congr Iff.rfl ?_
 rw [Bool.not_eq_true',List.any_eq_false]
 constructor
 ·intro h t ht
  cases hb : x.l.testBit t with
  | false=>simp
  | true=>rw [(h t hb).2];simp
 ·intro h t hb
  have ht : t < s.truths.length:=by
   refine Classical.byContradiction fun e=>?_
   have h1 : x.l < 2 ^ t:=by
    have h2 : 2 ^ s.truths.length <= 2 ^ t:=Nat.pow_le_pow_right (by omega) (by omega)
    have h3 : 0 < 2 ^ s.truths.length:=Nat.two_pow_pos _
    unfold allN at hl
    omega
   rw [Nat.testBit_lt_two_pow h1] at hb;cases hb
  refine ⟨ht,?_⟩
  have:=h t (List.mem_range.2 ht)
  rw [hb] at this
  simpa using this
theorem f7 {f : Nat -> Bool} {n k : Nat} (hk : k < n) (h : f k = true) : (List.range n).any f = true:=List.any_eq_true.2 ⟨k,List.mem_range.2 hk,h⟩
theorem gt {f : Nat -> Bool} {n : Nat} (h : ∀ k,k < n -> f k = false) : (List.range n).any f = false:=by
 rw [List.any_eq_false]
 intro k hk
 rw [h k (List.mem_range.1 hk)];simp
theorem qk (s : Sn) (hb : SnB s) (ok : SnOk s) (x : Sta) (hp : (x.p : Int) < s.places) (hl : x.l <= allN s) : Comp Tryz.prog 68 [rsA s,staA x] (.bool (zW s x)):=by
 have t2:=ok.t2
 have hal:=qF ok
 have e3 : ((s.truths.map tdA).length : Int) = s.truths.length:=by rw [List.length_map]
 rw [safe_ref ok hl]
 by_cases h0 : x.l = 0
 ·have hz : (x.l != 0 && !((List.range s.truths.length).any fun t=>x.l.testBit t && !dryT s t x.p x.m)) = false:=by rw [h0];rfl
  rw [hz]
  refine Comp.body (T:=tab) (res:=[.tmp 4]) za [] Tryz.func68 rfl (by kernel_rfl) Tryz.ntmps68 rfl (by simp only [List.length_cons,List.length_nil];decide) (by simp only [lowL,staL,rsL];rfl) ?_;conv=>whnf
  repeat' ((with_reducible first|refine XBr.y1 fun h=>?_|refine XBr.n1 fun h=>?_|refine XBr.beq (fun h=>?_) fun h=>?_) <;> conv=>whnf)
  exact XOut.bool rfl
 have hz : (x.l != 0 && !((List.range s.truths.length).any fun t=>x.l.testBit t && !dryT s t x.p x.m)) = !((List.range s.truths.length).any fun t=>x.l.testBit t && !dryT s t x.p x.m):=by rw [bne_iff_ne.2 h0];rfl
 rw [hz]
 refine Comp.body (T:=tab) (res:=[.tmp 4]) za [] Tryz.func68 rfl (by kernel_rfl) Tryz.ntmps68 rfl (by simp only [List.length_cons,List.length_nil];decide) (by simp only [lowL,staL,rsL];rfl) ?_;conv=>whnf
 repeat' ((with_reducible first|refine XBr.y1 fun h=>?_|refine XBr.n1 fun h=>?_|refine XBr.beq (fun h=>?_) fun h=>?_) <;> conv=>whnf)
 refine Walk.loopK za [] [(2,_),(3,_)] ⟨rfl,rfl,trivial⟩ (fun k : Nat=>k <= s.truths.length /\ ∀ j,j < k -> (x.l.testBit j && !dryT s j x.p x.m) = false) (fun k=>[(5,natA k)]) (fun _=>[]) (fun k=>s.truths.length - k) 0 ⟨Nat.zero_le _,fun j hj=>by omega⟩ rfl ⟨rfl,trivial⟩ ?_
 rintro k ⟨hk,hs⟩
 conv=>whnf
 by_cases hlt : k < s.truths.length
 ·have hw:=rWet_c s hb k x.p x.m hlt (by have:=ok.tl _ (zk (d:=default) hlt);omega)
  have his:=rIs_c x.l k (by omega) (by omega)
  cases hb1 : x.l.testBit k with
  | false =>
    rw [hb1] at his
    repeat' first|((with_reducible first|apply XBr.ff|refine XBr.y fun h=>?_|refine XBr.n fun h=>?_|refine XBr.dec (fun h=>?_) fun h=>?_|refine XInt.a ?_) <;> conv=>whnf)|((refine zb.ret his ?_);conv=>whnf)|fail
    refine zj.go (k + 1) ⟨by omega,fun j hj=>?_⟩ (by omega) rfl ⟨rfl,rfl,rfl,trivial⟩
    by_cases e : j = k
    ·subst e;rw [hb1];rfl
    ·exact hs j (by omega)
  | true =>
    rw [hb1] at his
    cases hb2 : dryT s k x.p x.m with
    | true =>
      rw [hb2] at hw
      repeat' first|((with_reducible first|apply XBr.tt|refine XBr.y fun h=>?_|refine XBr.n fun h=>?_|refine XBr.dec (fun h=>?_) fun h=>?_|refine XInt.a ?_) <;> conv=>whnf) | with_reducible apply XBr.not|((first|refine zb.ret his ?_|refine zb.ret hw ?_);conv=>whnf)|fail
      refine zj.go (k + 1) ⟨by omega,fun j hj=>?_⟩ (by omega) rfl ⟨rfl,rfl,rfl,trivial⟩
      by_cases e : j = k
      ·subst e;rw [hb2];simp
      ·exact hs j (by omega)
    | false =>
      rw [hb2] at hw
      repeat' first|((with_reducible first|apply XBr.tt|apply XBr.ff|refine XBr.y fun h=>?_|refine XBr.n fun h=>?_|refine XBr.dec (fun h=>?_) fun h=>?_) <;> conv=>whnf) | with_reducible apply XBr.not|((first|refine zb.ret his ?_|refine zb.ret hw ?_);conv=>whnf)|fail
      rw [f7 hlt (by rw [hb1,hb2];rfl)]
      exact XOut.bool rfl
 obtain rfl : k = s.truths.length:=by omega
 rw [gt hs]
 clear hs
 repeat' ((with_reducible first|refine XBr.y fun h=>?_|refine XBr.n fun h=>?_|refine XBr.dec (fun h=>?_) fun h=>?_) <;> conv=>whnf)
 exact XOut.bool rfl
end GA
end
section
namespace GA
open Go Go.RowKit Go.Proofs
theorem wi {P : Nat -> Prop} {k : Nat} (h : ∀ j,j < k -> P j) (hk : P k) : ∀ j,j < k + 1 -> P j:=fun j hj=>by
 by_cases e : j = k
 ·exact e ▸ hk
 ·exact h j (by omega)
theorem allE {α : Type} {p : α -> Bool} {xs : List α} {d : α} (h : ∀ j,j < xs.length -> p (xs.getD j d) = true) : xs.all p = true:=by
 rw [List.all_eq_true];intro x hx
 obtain ⟨j,hj,rfl⟩:=List.mem_iff_getElem.1 hx
 have:=h j hj
 rwa [List.getD_eq_getElem?_getD,List.getElem?_eq_getElem hj] at this
theorem fc {α : Type} {p : α -> Bool} {xs : List α} {d : α} {i : Nat} (hi : i < xs.length) (h : p (xs.getD i d) = false) : xs.all p = false:=by
 rw [List.all_eq_false];exact ⟨_,zk hi,by rw [h];simp⟩
def baseB (s : Sn) : Prop:=inZ s.places 1 5 = true /\ inZ s.truths.length 1 4 = true /\ (s.ways.length : Int) <= 10 /\ (s.looks.length : Int) = s.truths.length
theorem cnt_base {s : Sn} (h : ¬ baseB s) : cntB s = false:=by
 rw [<- Bool.not_eq_true]
 intro e
 unfold cntB at e
 simp only [Bool.and_eq_true,decide_eq_true_eq] at e
 exact h ⟨e.1.1.1.1.1,e.1.1.1.1.2,e.1.1.1.2,e.1.1.2⟩
theorem cnt_all {s : Sn} (h : baseB s) (h1 : s.looks.all (fun l=>decide ((l.2.length : Int) = s.places)) = true) (h2 : s.truths.all (fun t=>decide ((t.2.length : Int) = s.places)) = true) : cntB s = true:=by
 obtain ⟨a,b,c,d⟩:=h
 unfold cntB
 rw [a,b,decide_eq_true c,decide_eq_true d,h1,h2];rfl
theorem cnt_no {s : Sn} (h : s.looks.all (fun l=>decide ((l.2.length : Int) = s.places)) = false \/ s.truths.all (fun t=>decide ((t.2.length : Int) = s.places)) = false) : cntB s = false:=by
 unfold cntB
 rcases h with h | h <;> rw [h] <;> simp
theorem zdk {α : Type} {f : α -> Bool} {xs : List α} {d : α} {k j : Nat} (hj : j < k) (hk : k <= xs.length) (h : f (xs.getD j d) = true) : (xs.take k).any f = true:=by
 rw [List.any_eq_true]
 refine ⟨xs.getD j d,?_,h⟩
 rw [List.getD_eq_getElem?_getD,List.getElem?_eq_getElem (by omega)]
 exact List.mem_take_iff_getElem.2 ⟨j,by omega,rfl⟩
theorem zdB {α : Type} {f : α -> Bool} {xs : List α} {d : α} {k : Nat} (hk : k <= xs.length) (h : ∀ j,j < k -> f (xs.getD j d) = false) : (xs.take k).any f = false:=by
 rw [List.any_eq_false]
 intro x hx
 obtain ⟨j,hj,rfl⟩:=List.mem_take_iff_getElem.1 hx
 have:=h j (by omega)
 rw [List.getD_eq_getElem?_getD,List.getElem?_eq_getElem (by omega)] at this
 simpa using this
set_option maxHeartbeats 4000000 in
theorem jJ (s : Sn) (hb : SnB s) : Comp Tryz.prog 62 [rsA s] (.int .i64 (snE s)):=by
 have b1:=hb.w;have b2:=hb.k;have b3:=hb.t
 have e1 : ((s.ways.map wyA).length : Int) = s.ways.length:=by rw [List.length_map]
 have e2 : ((s.looks.map rwA).length : Int) = s.looks.length:=by rw [List.length_map]
 have e3 : ((s.truths.map tdA).length : Int) = s.truths.length:=by rw [List.length_map]
 by_cases hbase : baseB s
 rotate_left
 ·rw [snE_1 (cnt_base hbase)]
  unfold baseB at hbase
  rw [<- e3] at hbase
  refine Comp.body (T:=tab) (res:=[.tmp 2]) za [] Tryz.func62 rfl (by kernel_rfl) Tryz.ntmps62 rfl (by simp only [List.length_cons,List.length_nil];decide) (by simp only [lowL,rsL];rfl) ?_;conv=>whnf
  skip
  refine Walk.norm za [] [(1,_)] ⟨rfl,trivial⟩ ?_
  conv=>whnf
  repeat' first|((with_reducible first|apply XBr.tt|apply XBr.ff|refine XBr.y fun h=>?_|refine XBr.n fun h=>?_|refine XBr.dec (fun h=>?_) fun h=>?_|refine XBr.y2 fun h=>?_|refine XBr.n2 fun h=>?_|refine XBr.bne (fun h=>?_) fun h=>?_) <;> conv=>whnf) | with_reducible apply XBr.not|((refine zb.ret (zX _ _ _) ?_);conv=>whnf)|((with_reducible refine XBr.mk' (fun h=>?_) fun h=>?_) <;> conv=>whnf)|fail
  all_goals first
   | exact XOut.int rfl
   | (exfalso;exact hbase ⟨by assumption,by assumption,by omega,by omega⟩)
 obtain ⟨p1,t1,w1,k1⟩:=hbase
 have hbase : baseB s:=⟨p1,t1,w1,k1⟩
 have p1':=zr.1 p1
 have t1':=zr.1 t1
 refine Comp.body (T:=tab) (res:=[.tmp 2]) za [] Tryz.func62 rfl (by kernel_rfl) Tryz.ntmps62 rfl (by simp only [List.length_cons,List.length_nil];decide) (by simp only [lowL,rsL];rfl) ?_;conv=>whnf
 skip
 refine Walk.norm za [] [(1,_)] ⟨rfl,trivial⟩ ?_
 conv=>whnf
 have t1e : inZ ((s.truths.map tdA).length : Int) 1 4 = true:=by rw [e3];exact t1
 repeat' first|((with_reducible first|apply XBr.tt|apply XBr.ff|refine XBr.y fun h=>?_|refine XBr.n fun h=>?_|refine XBr.dec (fun h=>?_) fun h=>?_|refine XBr.y2 fun h=>?_|refine XBr.n2 fun h=>?_|refine XBr.bne (fun h=>?_) fun h=>?_) <;> conv=>whnf) | with_reducible apply XBr.not|(((refine zb.ret (zX _ _ _) ?_);(first | rw [p1] | rw [t1e]));conv=>whnf)|fail
 -- as many things as there must be
 refine Walk.loopK za [] [(1,_)] ⟨rfl,trivial⟩ (fun k : Nat=>k <= s.truths.length /\ ∀ j,j < k -> ((s.looks.getD j default).2.length : Int) = s.places /\ ((s.truths.getD j default).2.length : Int) = s.places) (fun k=>[(3,natA k)]) (fun _=>[]) (fun k=>s.truths.length - k) 0 ⟨Nat.zero_le _,fun j hj=>by omega⟩ rfl ⟨rfl,trivial⟩ ?_
 rintro k ⟨hk,hs⟩
 conv=>whnf
 by_cases hlt : k < s.truths.length
 ·have e4 : ((ints (s.looks.getD k default).2).length : Int) = (s.looks.getD k default).2.length:=by rw [zK]
  have e5 : (((s.truths.getD k default).2.map spsA).length : Int) = (s.truths.getD k default).2.length:=by rw [List.length_map]
  have hltk : k < s.looks.length:=by omega
  by_cases c1 : ((s.looks.getD k default).2.length : Int) = s.places
  ·by_cases c2 : ((s.truths.getD k default).2.length : Int) = s.places
   ·skip
    repeat' first|((with_reducible first|refine XBr.y fun h=>?_|refine XBr.n fun h=>?_|refine XBr.dec (fun h=>?_) fun h=>?_|refine XBr.y2 fun h=>?_|refine XBr.n2 fun h=>?_|refine XBr.bne (fun h=>?_) fun h=>?_|refine XInt.a ?_|apply Chk.go|apply ChkA.go|apply ChkF.go|apply ChkB.go|apply zq.mk) <;> conv=>whnf)|(refine XIx.a ?_;conv=>whnf)|(with_reducible first|apply XAnd.mk|exact trivial)|(exact zg.mk rfl rfl)|(apply Walk.drawN (id:=6) za zd [] [] (hsU _) [_,_,_,_,_,_,_,_,_,_,_,_,_,_,_,_,_,_,_,_] (by kernel_rfl) rfl)|fail
    exact zj.go (k + 1) ⟨by omega,wi hs ⟨c1,c2⟩⟩ (by omega) rfl ⟨rfl,rfl,trivial⟩
   ·rw [snE_1 (cnt_no (.inr (fc hlt (decide_eq_false c2))))]
    repeat' first|((with_reducible first|refine XBr.y fun h=>?_|refine XBr.n fun h=>?_|refine XBr.dec (fun h=>?_) fun h=>?_|refine XBr.y2 fun h=>?_|refine XBr.n2 fun h=>?_|refine XBr.bne (fun h=>?_) fun h=>?_|apply Chk.go|apply ChkA.go|apply ChkF.go|apply ChkB.go|apply zq.mk) <;> conv=>whnf)|(refine XIx.a ?_;conv=>whnf)|(with_reducible first|apply XAnd.mk|exact trivial)|(exact zg.mk rfl rfl)|(apply Walk.drawN (id:=6) za zd [] [] (hsU _) [_,_,_,_,_,_,_,_,_,_,_,_,_,_,_,_,_,_,_,_] (by kernel_rfl) rfl)|fail
    exact XOut.int rfl
  ·rw [snE_1 (cnt_no (.inl (fc hltk (decide_eq_false c1))))]
   repeat' first|((with_reducible first|apply XBr.tt|refine XBr.y fun h=>?_|refine XBr.n fun h=>?_|refine XBr.dec (fun h=>?_) fun h=>?_|refine XBr.y2 fun h=>?_|refine XBr.n2 fun h=>?_|refine XBr.bne (fun h=>?_) fun h=>?_|apply Chk.go|apply ChkA.go|apply ChkF.go|apply ChkB.go|apply zq.mk) <;> conv=>whnf)|(refine XIx.a ?_;conv=>whnf)|(with_reducible first|apply XAnd.mk|exact trivial)|(exact zg.mk rfl rfl)|(apply Walk.drawN (id:=6) za zd [] [] (hsU _) [_,_,_,_,_,_,_,_,_,_,_,_,_,_,_,_,_,_,_,_] (by kernel_rfl) rfl)|fail
   exact XOut.int rfl
 obtain rfl : k = s.truths.length:=by omega
 have q1 : cntB s = true:=cnt_all hbase (allE (d:=default) fun j hj=>decide_eq_true (hs j (by omega)).1) (allE (d:=default) fun j hj=>decide_eq_true (hs j hj).2)
 have hkl : ∀ j,j < s.looks.length -> ((s.looks.getD j default).2.length : Int) = s.places:=fun j hj=>(hs j (by omega)).1
 have htl : ∀ j,j < s.truths.length -> ((s.truths.getD j default).2.length : Int) = s.places:=fun j hj=>(hs j hj).2
 clear hs
 -- the last minute
 cases q2 : inZ s.last 1 60
 ·rw [snE_2 q1 (.inl q2)]
  repeat' first|((with_reducible first|apply XBr.ff|refine XBr.y fun h=>?_|refine XBr.n fun h=>?_|refine XBr.dec (fun h=>?_) fun h=>?_) <;> conv=>whnf) | with_reducible apply XBr.not|(((refine zb.ret (zX _ _ _) ?_);rw [q2]);conv=>whnf)|fail
  exact XOut.int rfl
 have q2':=zr.1 q2
 repeat' first|((with_reducible first|apply XBr.tt|refine XBr.y fun h=>?_|refine XBr.n fun h=>?_|refine XBr.dec (fun h=>?_) fun h=>?_) <;> conv=>whnf) | with_reducible apply XBr.not|(((refine zb.ret (zX _ _ _) ?_);rw [q2]);conv=>whnf)|fail
 -- the minutes of the ways
 refine Walk.loopK za [] [(1,_)] ⟨rfl,trivial⟩ (fun k : Nat=>k <= s.ways.length /\ ∀ j,j < k -> inZ (s.ways.getD j default).2.2 1 20 = true) (fun k=>[(4,natA k)]) (fun _=>[]) (fun k=>s.ways.length - k) 0 ⟨Nat.zero_le _,fun j hj=>by omega⟩ rfl ⟨rfl,trivial⟩ ?_
 rintro k ⟨hk,hs⟩
 conv=>whnf
 by_cases hlt : k < s.ways.length
 ·cases c1 : inZ (s.ways.getD k default).2.2 1 20
  ·rw [snE_2 q1 (.inr (fc hlt c1))]
   repeat' first|((with_reducible first|apply XBr.ff|refine XBr.y fun h=>?_|refine XBr.n fun h=>?_|refine XBr.dec (fun h=>?_) fun h=>?_) <;> conv=>whnf) | with_reducible apply XBr.not|((first|(first|refine XIx.a ?_|refine XArr.at _ (by omega) (by omega) rfl ?_)|((refine zb.ret (zX _ _ _) ?_);rw [c1]));conv=>whnf)|fail
   exact XOut.int rfl
  ·skip
   repeat' first|((with_reducible first|apply XBr.tt|refine XBr.y fun h=>?_|refine XBr.n fun h=>?_|refine XBr.dec (fun h=>?_) fun h=>?_|refine XInt.a ?_) <;> conv=>whnf) | with_reducible apply XBr.not|((first|(first|refine XIx.a ?_|refine XArr.at _ (by omega) (by omega) rfl ?_)|((refine zb.ret (zX _ _ _) ?_);rw [c1]));conv=>whnf)|fail
   exact zj.go (k + 1) ⟨by omega,wi hs c1⟩ (by omega) rfl ⟨rfl,rfl,trivial⟩
 obtain rfl : k = s.ways.length:=by omega
 have n2 : ¬ (inZ s.last 1 60 = false \/ s.ways.all (fun w=>inZ w.2.2 1 20) = false):=by rw [q2,allE (d:=default) hs];simp
 clear hs
 repeat' ((with_reducible first|refine XBr.y fun h=>?_|refine XBr.n fun h=>?_|refine XBr.dec (fun h=>?_) fun h=>?_) <;> conv=>whnf)
 -- what is seen
 refine Walk.loopK za [] [(1,_)] ⟨rfl,trivial⟩ (fun k : Nat=>k <= s.looks.length /\ ∀ j,j < k -> ((s.looks.getD j default).2.all fun n=>inZ n 0 3) = true) (fun k=>[(5,natA k)]) (fun _=>[]) (fun k=>s.looks.length - k) 0 ⟨Nat.zero_le _,fun j hj=>by omega⟩ rfl ⟨rfl,trivial⟩ ?_
 rintro k ⟨hk,hs⟩
 conv=>whnf
 by_cases hlt : k < s.looks.length
 ·have hln:=hkl k hlt
  repeat' ((with_reducible first|refine XBr.y fun h=>?_|refine XBr.n fun h=>?_|refine XBr.dec (fun h=>?_) fun h=>?_) <;> conv=>whnf)
  refine Walk.loopK za [] [(1,_),(5,_)] ⟨rfl,rfl,trivial⟩ (fun i : Nat=>(i : Int) <= s.places /\ ∀ j,j < i -> inZ ((s.looks.getD k default).2.getD j default) 0 3 = true) (fun i=>[(6,natA i)]) (fun _=>[]) (fun i=>s.places.toNat - i) 0 ⟨by omega,fun j hj=>by omega⟩ rfl ⟨rfl,trivial⟩ ?_
  rintro i ⟨hi,his⟩
  conv=>whnf
  by_cases hlt2 : (i : Int) < s.places
  ·cases c1 : inZ ((s.looks.getD k default).2.getD i default) 0 3
   ·rw [snE_3 q1 n2 (fc hlt (fc (by omega) c1))]
    repeat' first|((with_reducible first|apply XBr.ff|refine XBr.y fun h=>?_|refine XBr.n fun h=>?_|refine XBr.dec (fun h=>?_) fun h=>?_) <;> conv=>whnf)|(refine XIx.a ?_;conv=>whnf) | with_reducible apply XBr.not|(((refine zb.ret (zX _ _ _) ?_);rw [c1]);conv=>whnf)|fail
    exact XOut.int rfl
   ·skip
    repeat' first|((with_reducible first|apply XBr.tt|refine XBr.y fun h=>?_|refine XBr.n fun h=>?_|refine XBr.dec (fun h=>?_) fun h=>?_|refine XInt.a ?_) <;> conv=>whnf)|(refine XIx.a ?_;conv=>whnf) | with_reducible apply XBr.not|(((refine zb.ret (zX _ _ _) ?_);rw [c1]);conv=>whnf)|fail
    exact zj.go (i + 1) ⟨by omega,wi his c1⟩ (by omega) rfl ⟨rfl,rfl,rfl,trivial⟩
  have hall:=allE (p:=fun n=>inZ n 0 3) (d:=default) (xs:=(s.looks.getD k default).2) fun j hj=>his j (by omega)
  clear his
  repeat' ((with_reducible first|refine XBr.y fun h=>?_|refine XBr.n fun h=>?_|refine XBr.dec (fun h=>?_) fun h=>?_|refine XInt.a ?_) <;> conv=>whnf)
  exact zj.go (k + 1) ⟨by omega,wi hs hall⟩ (by omega) rfl ⟨rfl,rfl,trivial⟩
 obtain rfl : k = s.looks.length:=by omega
 have q4 : s.looks.all (fun l=>l.2.all fun n=>inZ n 0 3) = true:=allE (d:=default) hs
 clear hs
 have hpd : ∀ x,inZ x 0 (s.places - 1) = plB s x:=fun _=>rfl
 -- home and bed
 cases q51 : plB s s.home
 ·rw [snE_4 q1 n2 q4 (.inl q51)]
  repeat' first|((with_reducible first|apply XBr.tt|apply XBr.ff|refine XBr.y fun h=>?_|refine XBr.n fun h=>?_|refine XBr.dec (fun h=>?_) fun h=>?_|refine XInt.a ?_) <;> conv=>whnf) | with_reducible apply XBr.not|(((refine zb.ret (zX _ _ _) ?_);rw [hpd,q51]);conv=>whnf)|fail
  exact XOut.int rfl
 cases q52 : plB s s.bed
 ·rw [snE_4 q1 n2 q4 (.inr (.inl q52))]
  repeat' first|((with_reducible first|apply XBr.tt|apply XBr.ff|refine XBr.y fun h=>?_|refine XBr.n fun h=>?_|refine XBr.dec (fun h=>?_) fun h=>?_|refine XInt.a ?_) <;> conv=>whnf) | with_reducible apply XBr.not|(((refine zb.ret (zX _ _ _) ?_);(first | rw [hpd,q51] | rw [hpd,q52]));conv=>whnf)|fail
  exact XOut.int rfl
 repeat' first|((with_reducible first|apply XBr.tt|apply XBr.ff|refine XBr.y fun h=>?_|refine XBr.n fun h=>?_|refine XBr.dec (fun h=>?_) fun h=>?_|refine XInt.a ?_) <;> conv=>whnf) | with_reducible apply XBr.not|(((refine zb.ret (zX _ _ _) ?_);(first | rw [hpd,q51] | rw [hpd,q52]));conv=>whnf)|fail
 -- the places of the ways
 refine Walk.loopK za [] [(1,_)] ⟨rfl,trivial⟩ (fun k : Nat=>k <= s.ways.length /\ ∀ j,j < k -> (plB s (s.ways.getD j default).1 && plB s (s.ways.getD j default).2.1) = true) (fun k=>[(7,natA k)]) (fun _=>[]) (fun k=>s.ways.length - k) 0 ⟨Nat.zero_le _,fun j hj=>by omega⟩ rfl ⟨rfl,trivial⟩ ?_
 rintro k ⟨hk,hs⟩
 conv=>whnf
 by_cases hlt : k < s.ways.length
 ·cases c1 : plB s (s.ways.getD k default).1
  ·rw [snE_4 q1 n2 q4 (.inr (.inr (fc hlt (by rw [c1];rfl))))]
   repeat' first|((with_reducible first|apply XBr.tt|apply XBr.ff|refine XBr.y fun h=>?_|refine XBr.n fun h=>?_|refine XBr.dec (fun h=>?_) fun h=>?_|refine XInt.a ?_|apply Chk.go|apply ChkA.go|apply ChkF.go|apply ChkB.go|apply zq.mk) <;> conv=>whnf)|(refine XIx.a ?_;conv=>whnf)|(with_reducible first|apply XBr.not|apply XAnd.mk|exact trivial)|(exact zg.mk rfl rfl)|(apply Walk.drawN (id:=28) za zd [] [] (hsU _) [_,_,_,_,_,_,_,_,_,_,_,_,_,_,_,_,_,_,_,_,_,_] (by kernel_rfl) rfl)|((first|(refine XArr.at _ (by omega) (by omega) rfl ?_)|((refine zb.ret (zX _ _ _) ?_);rw [hpd,c1]));conv=>whnf)|fail
   exact XOut.int rfl
  cases c2 : plB s (s.ways.getD k default).2.1
  ·rw [snE_4 q1 n2 q4 (.inr (.inr (fc hlt (by rw [c2,Bool.and_false]))))]
   repeat' first|((with_reducible first|apply XBr.tt|apply XBr.ff|refine XBr.y fun h=>?_|refine XBr.n fun h=>?_|refine XBr.dec (fun h=>?_) fun h=>?_|refine XInt.a ?_|apply Chk.go|apply ChkA.go|apply ChkF.go|apply ChkB.go|apply zq.mk) <;> conv=>whnf)|(refine XIx.a ?_;conv=>whnf)|(with_reducible first|apply XBr.not|apply XAnd.mk|exact trivial)|(exact zg.mk rfl rfl)|(apply Walk.drawN (id:=28) za zd [] [] (hsU _) [_,_,_,_,_,_,_,_,_,_,_,_,_,_,_,_,_,_,_,_,_,_] (by kernel_rfl) rfl)|((first|(refine XArr.at _ (by omega) (by omega) rfl ?_)|((refine zb.ret (zX _ _ _) ?_);(first | rw [hpd,c1] | rw [hpd,c2])));conv=>whnf)|fail
   exact XOut.int rfl
  repeat' first|((with_reducible first|apply XBr.tt|refine XBr.y fun h=>?_|refine XBr.n fun h=>?_|refine XBr.dec (fun h=>?_) fun h=>?_|refine XInt.a ?_|apply Chk.go|apply ChkA.go|apply ChkF.go|apply ChkB.go|apply zq.mk) <;> conv=>whnf)|(refine XIx.a ?_;conv=>whnf)|(with_reducible first|apply XBr.not|apply XAnd.mk|exact trivial)|(exact zg.mk rfl rfl)|(apply Walk.drawN (id:=28) za zd [] [] (hsU _) [_,_,_,_,_,_,_,_,_,_,_,_,_,_,_,_,_,_,_,_,_,_] (by kernel_rfl) rfl)|((first|(refine XArr.at _ (by omega) (by omega) rfl ?_)|((refine zb.ret (zX _ _ _) ?_);(first | rw [hpd,c1] | rw [hpd,c2])));conv=>whnf)|fail
  exact zj.go (k + 1) ⟨by omega,wi hs (by rw [c1,c2];rfl)⟩ (by omega) rfl ⟨rfl,rfl,trivial⟩
 obtain rfl : k = s.ways.length:=by omega
 have n5 : ¬ (plB s s.home = false \/ plB s s.bed = false \/ s.ways.all (fun w=>plB s w.1 && plB s w.2.1) = false):=by rw [q51,q52,allE (d:=default) hs];simp
 clear hs
 by_cases q6 : s.home = s.bed
 ·rw [snE_5 q1 n2 q4 n5 q6]
  repeat' ((with_reducible first|refine XBr.y fun h=>?_|refine XBr.n fun h=>?_|refine XBr.dec (fun h=>?_) fun h=>?_|refine XBr.y1 fun h=>?_|refine XBr.n1 fun h=>?_|refine XBr.beq (fun h=>?_) fun h=>?_) <;> conv=>whnf)
  exact XOut.int rfl
 repeat' ((with_reducible first|refine XBr.y fun h=>?_|refine XBr.n fun h=>?_|refine XBr.dec (fun h=>?_) fun h=>?_|refine XBr.y1 fun h=>?_|refine XBr.n1 fun h=>?_|refine XBr.beq (fun h=>?_) fun h=>?_) <;> conv=>whnf)
 -- ways that come again
 refine Walk.loopK za [] [(1,_)] ⟨rfl,trivial⟩ (fun k : Nat=>k <= s.ways.length /\ ∀ j,j < k -> agnI s j = false) (fun k=>[(8,natA k)]) (fun _=>[]) (fun k=>s.ways.length - k) 0 ⟨Nat.zero_le _,fun j hj=>by omega⟩ rfl ⟨rfl,trivial⟩ ?_
 rintro k ⟨hk,hs⟩
 conv=>whnf
 by_cases hlt : k < s.ways.length
 ·have hag : agnI s k = ((s.ways.getD k default).1 == (s.ways.getD k default).2.1 ||(s.ways.take k).any fun x=>yh x (s.ways.getD k default).1 (s.ways.getD k default).2.1):=rfl
  have hE : agnI s k = true -> snE s = 5:=fun h=>snE_6 q1 n2 q4 n5 q6 (by unfold agnB;rw [List.any_eq_true];exact ⟨k,List.mem_range.2 hlt,h⟩)
  by_cases c1 : (s.ways.getD k default).1 = (s.ways.getD k default).2.1
  ·rw [hE (by rw [hag,beq_iff_eq.2 c1];rfl)]
   repeat' first|((with_reducible first|refine XBr.y fun h=>?_|refine XBr.n fun h=>?_|refine XBr.dec (fun h=>?_) fun h=>?_|refine XBr.y1 fun h=>?_|refine XBr.n1 fun h=>?_|refine XBr.beq (fun h=>?_) fun h=>?_|apply Chk.go|apply ChkA.go|apply ChkF.go|apply ChkB.go|apply zq.mk) <;> conv=>whnf)|(refine XIx.a ?_;conv=>whnf)|(with_reducible first|apply XAnd.mk|exact trivial)|(exact zg.mk rfl rfl)|(apply Walk.drawN (id:=35) za zd [] [] (hsU _) [_,_,_,_,_,_,_,_,_,_,_,_,_] (by kernel_rfl) rfl)|((refine XArr.at _ (by omega) (by omega) rfl ?_);conv=>whnf)|fail
   exact XOut.int rfl
  rw [beq_eq_false_iff_ne.2 c1,Bool.false_or] at hag
  repeat' first|((with_reducible first|refine XBr.y fun h=>?_|refine XBr.n fun h=>?_|refine XBr.dec (fun h=>?_) fun h=>?_|refine XBr.y1 fun h=>?_|refine XBr.n1 fun h=>?_|refine XBr.beq (fun h=>?_) fun h=>?_|apply Chk.go|apply ChkA.go|apply ChkF.go|apply ChkB.go|apply zq.mk) <;> conv=>whnf)|(refine XIx.a ?_;conv=>whnf)|(with_reducible first|apply XAnd.mk|exact trivial)|(exact zg.mk rfl rfl)|(apply Walk.drawN (id:=35) za zd [] [] (hsU _) [_,_,_,_,_,_,_,_,_,_,_,_,_] (by kernel_rfl) rfl)|((refine XArr.at _ (by omega) (by omega) rfl ?_);conv=>whnf)|fail
  refine Walk.loopK za [] [(1,_),(8,_)] ⟨rfl,rfl,trivial⟩ (fun i : Nat=>i <= k /\ ∀ j,j < i -> yh (s.ways.getD j default) (s.ways.getD k default).1 (s.ways.getD k default).2.1 = false) (fun i=>[(9,natA i)]) (fun _=>[]) (fun i=>k - i) 0 ⟨Nat.zero_le _,fun j hj=>by omega⟩ rfl ⟨rfl,trivial⟩ ?_
  rintro i ⟨hi,his⟩
  conv=>whnf
  by_cases hlt2 : i < k
  ·have hld:=leads_c (s.ways.getD i default) (s.ways.getD k default).1 (s.ways.getD k default).2.1
   cases c2 : yh (s.ways.getD i default) (s.ways.getD k default).1 (s.ways.getD k default).2.1
   ·rw [c2] at hld
    repeat' first|((with_reducible first|apply XBr.ff|refine XBr.y fun h=>?_|refine XBr.n fun h=>?_|refine XBr.dec (fun h=>?_) fun h=>?_|refine XInt.a ?_|apply Chk.go|apply ChkA.go|apply ChkF.go|apply ChkB.go|apply zq.mk) <;> conv=>whnf)|(refine XIx.a ?_;conv=>whnf)|(with_reducible first|apply XAnd.mk|exact trivial)|(exact zg.mk rfl rfl)|(apply Walk.drawN (id:=40) za zd [] [] (hsU _) [_,_,_,_,_,_,_,_,_,_,_,_,_,_,_,_,_,_] (by kernel_rfl) rfl)|((first|refine XArr.at _ (by omega) (by omega) rfl ?_|refine zb.ret hld ?_);conv=>whnf)|fail
    exact zj.go (i + 1) ⟨by omega,wi his c2⟩ (by omega) rfl ⟨rfl,rfl,rfl,trivial⟩
   ·rw [c2] at hld
    rw [hE (by rw [hag];exact zdk hlt2 (by omega) c2)]
    repeat' first|((with_reducible first|apply XBr.tt|refine XBr.y fun h=>?_|refine XBr.n fun h=>?_|refine XBr.dec (fun h=>?_) fun h=>?_|apply Chk.go|apply ChkA.go|apply ChkF.go|apply ChkB.go|apply zq.mk) <;> conv=>whnf)|(refine XIx.a ?_;conv=>whnf)|(with_reducible first|apply XAnd.mk|exact trivial)|(exact zg.mk rfl rfl)|(apply Walk.drawN (id:=40) za zd [] [] (hsU _) [_,_,_,_,_,_,_,_,_,_,_,_,_,_,_,_,_,_] (by kernel_rfl) rfl)|((first|refine XArr.at _ (by omega) (by omega) rfl ?_|refine zb.ret hld ?_);conv=>whnf)|fail
    exact XOut.int rfl
  obtain rfl : i = k:=by omega
  have hno : agnI s i = false:=by rw [hag];exact zdB hk his
  clear his
  repeat' ((with_reducible first|refine XBr.y fun h=>?_|refine XBr.n fun h=>?_|refine XBr.dec (fun h=>?_) fun h=>?_|refine XInt.a ?_) <;> conv=>whnf)
  exact zj.go (i + 1) ⟨by omega,wi hs hno⟩ (by omega) rfl ⟨rfl,rfl,trivial⟩
 obtain rfl : k = s.ways.length:=by omega
 have q7 : agnB s = false:=by
  unfold agnB
  rw [List.any_eq_false]
  intro i hi
  rw [hs i (List.mem_range.1 hi)];simp
 rw [snE_7 q1 n2 q4 n5 q6 q7]
 clear hs
 repeat' ((with_reducible first|refine XBr.y fun h=>?_|refine XBr.n fun h=>?_|refine XBr.dec (fun h=>?_) fun h=>?_) <;> conv=>whnf)
 -- the spans
 refine Walk.loopK za [] [(1,_)] ⟨rfl,trivial⟩ (fun k : Nat=>k <= s.truths.length /\ ∀ j,j < k -> trE s (s.truths.getD j default) = 0) (fun k=>[(10,natA k)]) (fun _=>[]) (fun k=>s.truths.length - k) 0 ⟨Nat.zero_le _,fun j hj=>by omega⟩ rfl ⟨rfl,trivial⟩ ?_
 rintro k ⟨hk,hs⟩
 conv=>whnf
 by_cases hlt : k < s.truths.length
 ·have hmem : s.truths.getD k default ∈ s.truths:=zk hlt
  have htk:=htl k hlt
  have hE : trE s (s.truths.getD k default) ≠ 0 -> yW (s.truths.map (trE s)) = trE s (s.truths.getD k default):=vt hlt hs
  have e4 : (((s.truths.getD k default).2.map spsA).length : Int) = (s.truths.getD k default).2.length:=by rw [List.length_map]
  repeat' ((with_reducible first|refine XBr.y fun h=>?_|refine XBr.n fun h=>?_|refine XBr.dec (fun h=>?_) fun h=>?_) <;> conv=>whnf)
  refine Walk.loopK za [] [(1,_),(10,_)] ⟨rfl,rfl,trivial⟩ (fun p : Nat=>(p : Int) <= s.places /\ ∀ j,j < p -> spE s.last none ((s.truths.getD k default).2.getD j default).2 = 0) (fun p=>[(11,natA p)]) (fun _=>[]) (fun p=>s.places.toNat - p) 0 ⟨by omega,fun j hj=>by omega⟩ rfl ⟨rfl,trivial⟩ ?_
  rintro p ⟨hp,hps⟩
  conv=>whnf
  by_cases hlt2 : (p : Int) < s.places
  ·have hltp : p < (s.truths.getD k default).2.length:=by omega
   have hsl:=hb.sl _ hmem _ (zk (d:=default) hltp)
   have hE2 : spE s.last none ((s.truths.getD k default).2.getD p default).2 ≠ 0 -> yW (s.truths.map (trE s)) = spE s.last none ((s.truths.getD k default).2.getD p default).2:=fun h=>by
    have h1 : trE s (s.truths.getD k default) = spE s.last none ((s.truths.getD k default).2.getD p default).2:=vt (f:=fun r : Sps=>spE s.last none r.2) hltp hps h
    rw [hE (by rw [h1];exact h),h1]
   have hgo : spE s.last none ((s.truths.getD k default).2.getD p default).2 = 0 -> ∀ j,j < p + 1 -> spE s.last none ((s.truths.getD k default).2.getD j default).2 = 0:=fun h=>wi hps h
   have e5 : ((((s.truths.getD k default).2.getD p default).2.map sgA).length : Int) = ((s.truths.getD k default).2.getD p default).2.length:=by rw [List.length_map]
   repeat' first|((with_reducible first|refine XBr.y fun h=>?_|refine XBr.n fun h=>?_|refine XBr.dec (fun h=>?_) fun h=>?_) <;> conv=>whnf)|(refine XIx.a ?_;conv=>whnf)|fail
   generalize (s.truths.getD k default).2.getD p default = r at hsl hE2 hgo e5
   refine Walk.loopK za [] [(1,_),(10,_),(11,_),(12,_)] ⟨rfl,rfl,rfl,rfl,trivial⟩ (fun i : Nat=>i <= r.2.length /\ spE s.last none r.2 = spE s.last (pvO r.2 i) (r.2.drop i) /\ ∀ j,j < i -> (r.2.getD j default).2 <= 60 /\ 0 <= (r.2.getD j default).2) (fun i=>[(13,natA i)]) (fun _=>[]) (fun i=>r.2.length - i) 0 ⟨Nat.zero_le _,rfl,fun j hj=>by omega⟩ rfl ⟨rfl,trivial⟩ ?_
   rintro i ⟨hi,his,hbd⟩
   conv=>whnf
   by_cases hlt3 : i < r.2.length
   ·rw [kj hlt3,spE] at his
    have hw:=fun x=>zX x 0 s.last
    by_cases c1 : inZ (r.2.getD i default).1 0 s.last = true
    ·by_cases c2 : inZ (r.2.getD i default).2 0 s.last = true
     ·by_cases c3 : (r.2.getD i default).2 < (r.2.getD i default).1
      ·have hbad : (inZ (r.2.getD i default).1 0 s.last && inZ (r.2.getD i default).2 (r.2.getD i default).1 s.last) = false:=by
        rw [<- Bool.not_eq_true,Bool.and_eq_true,zr,zr];omega
       rw [if_pos hbad] at his
       rw [hE2 (by rw [his];decide),his]
       repeat' first|((with_reducible first|apply XBr.tt|refine XBr.y fun h=>?_|refine XBr.n fun h=>?_|refine XBr.dec (fun h=>?_) fun h=>?_|apply Chk.go|apply ChkA.go|apply ChkF.go|apply ChkB.go|apply zq.mk) <;> conv=>whnf)|(refine XIx.a ?_;conv=>whnf)|(with_reducible first|apply XBr.not|apply XAnd.mk|exact trivial)|(exact zg.mk rfl rfl)|(apply Walk.drawN (id:=52) za zd [] [] (hsU _) [_,_,_,_,_,_,_,_,_,_,_,_,_,_,_,_,_,_,_,_,_,_,_,_,_,_,_,_,_,_,_] (by kernel_rfl) rfl)|(((refine zb.ret (hw _) ?_);(first | rw [c1] | rw [c2]));conv=>whnf)|fail
       exact XOut.int rfl
      ·have hgd : (inZ (r.2.getD i default).1 0 s.last && inZ (r.2.getD i default).2 (r.2.getD i default).1 s.last) = true:=by
        rw [zr] at c1 c2
        rw [Bool.and_eq_true,zr,zr];omega
       have c2':=zr.1 c2
       have hbd2:=wi hbd (show (r.2.getD i default).2 <= 60 /\ 0 <= (r.2.getD i default).2 by omega)
       rw [if_neg (by rw [hgd];simp)] at his
       rcases Nat.eq_zero_or_pos i with rfl | hi0
       ·rw [show gc (pvO r.2 0) (r.2.getD 0 default).1 = false from rfl,if_neg (by simp)] at his
        repeat' first|((with_reducible first|apply XBr.tt|apply XBr.ff|refine XBr.y fun h=>?_|refine XBr.n fun h=>?_|refine XBr.dec (fun h=>?_) fun h=>?_|refine XInt.a ?_|apply Chk.go|apply ChkA.go|apply ChkF.go|apply ChkB.go|apply zq.mk) <;> conv=>whnf)|(refine XIx.a ?_;conv=>whnf)|(with_reducible first|apply XBr.not|apply XAnd.mk|exact trivial)|(exact zg.mk rfl rfl)|(apply Walk.drawN (id:=52) za zd [] [] (hsU _) [_,_,_,_,_,_,_,_,_,_,_,_,_,_,_,_,_,_,_,_,_,_,_,_,_,_,_,_,_,_,_] (by kernel_rfl) rfl)|(apply Walk.drawN (id:=54) za zd [] [] (hsU _) [_,_,_,_,_,_,_,_,_,_,_,_,_,_,_,_,_] (by kernel_rfl) rfl)|(((refine zb.ret (hw _) ?_);(first | rw [c1] | rw [c2]));conv=>whnf)|fail
        exact zj.go 1 ⟨by omega,his,hbd2⟩ (by omega) rfl ⟨rfl,rfl,rfl,rfl,rfl,trivial⟩
       ·have hpv:=hbd ((i : Int) - 1).toNat (by omega)
        have hq : gc (pvO r.2 i) (r.2.getD i default).1 = decide ((r.2.getD i default).1 <= (r.2.getD ((i : Int) - 1).toNat default).2 + 1):=by
         obtain ⟨q,rfl⟩ : ∃ q,i = q + 1:=⟨i - 1,by omega⟩
         rw [show (((q + 1 : Nat) : Int) - 1).toNat = q by omega];rfl
        rw [hq] at his
        by_cases c4 : (r.2.getD i default).1 <= (r.2.getD ((i : Int) - 1).toNat default).2 + 1
        ·rw [if_pos (decide_eq_true c4)] at his
         rw [hE2 (by rw [his];decide),his]
         repeat' first|((with_reducible first|apply XBr.tt|refine XBr.y fun h=>?_|refine XBr.n fun h=>?_|refine XBr.dec (fun h=>?_) fun h=>?_|refine XInt.a ?_|apply Chk.go|apply ChkA.go|apply ChkF.go|apply ChkB.go|apply zq.mk) <;> conv=>whnf)|((first|refine XIx.a ?_|refine XIx.b ?_);conv=>whnf)|(with_reducible first|apply XBr.not|apply XAnd.mk|exact trivial)|(exact zg.mk rfl rfl)|(apply Walk.drawN (id:=52) za zd [] [] (hsU _) [_,_,_,_,_,_,_,_,_,_,_,_,_,_,_,_,_,_,_,_,_,_,_,_,_,_,_,_,_,_,_] (by kernel_rfl) rfl)|(apply Walk.drawN (id:=54) za zd [] [] (hsU _) [_,_,_,_,_,_,_,_,_,_,_,_,_,_,_,_,_] (by kernel_rfl) rfl)|(((refine zb.ret (hw _) ?_);(first | rw [c1] | rw [c2]));conv=>whnf)|fail
         exact XOut.int rfl
        ·rw [if_neg (by simpa using c4)] at his
         repeat' first|((with_reducible first|apply XBr.tt|refine XBr.y fun h=>?_|refine XBr.n fun h=>?_|refine XBr.dec (fun h=>?_) fun h=>?_|refine XInt.a ?_|apply Chk.go|apply ChkA.go|apply ChkF.go|apply ChkB.go|apply zq.mk) <;> conv=>whnf)|((first|refine XIx.a ?_|refine XIx.b ?_);conv=>whnf)|(with_reducible first|apply XBr.not|apply XAnd.mk|exact trivial)|(exact zg.mk rfl rfl)|(apply Walk.drawN (id:=52) za zd [] [] (hsU _) [_,_,_,_,_,_,_,_,_,_,_,_,_,_,_,_,_,_,_,_,_,_,_,_,_,_,_,_,_,_,_] (by kernel_rfl) rfl)|(apply Walk.drawN (id:=54) za zd [] [] (hsU _) [_,_,_,_,_,_,_,_,_,_,_,_,_,_,_,_,_] (by kernel_rfl) rfl)|(((refine zb.ret (hw _) ?_);(first | rw [c1] | rw [c2]));conv=>whnf)|fail
         exact zj.go (i + 1) ⟨by omega,his,hbd2⟩ (by omega) rfl ⟨rfl,rfl,rfl,rfl,rfl,trivial⟩
     ·have c2f : inZ (r.2.getD i default).2 0 s.last = false:=by simpa using c2
      have hbad : (inZ (r.2.getD i default).1 0 s.last && inZ (r.2.getD i default).2 (r.2.getD i default).1 s.last) = false:=by
       rw [zr] at c1 c2
       rw [<- Bool.not_eq_true,Bool.and_eq_true,zr,zr];omega
      rw [if_pos hbad] at his
      rw [hE2 (by rw [his];decide),his]
      repeat' first|((with_reducible first|apply XBr.tt|apply XBr.ff|refine XBr.y fun h=>?_|refine XBr.n fun h=>?_|refine XBr.dec (fun h=>?_) fun h=>?_|apply Chk.go|apply ChkA.go|apply ChkF.go|apply ChkB.go|apply zq.mk) <;> conv=>whnf)|(refine XIx.a ?_;conv=>whnf)|(with_reducible first|apply XBr.not|apply XAnd.mk|exact trivial)|(exact zg.mk rfl rfl)|(apply Walk.drawN (id:=52) za zd [] [] (hsU _) [_,_,_,_,_,_,_,_,_,_,_,_,_,_,_,_,_,_,_,_,_,_,_,_,_,_,_,_,_,_,_] (by kernel_rfl) rfl)|(((refine zb.ret (hw _) ?_);(first | rw [c1] | rw [c2f]));conv=>whnf)|fail
      exact XOut.int rfl
    ·have c1f : inZ (r.2.getD i default).1 0 s.last = false:=by simpa using c1
     rw [if_pos (by rw [c1f];rfl)] at his
     rw [hE2 (by rw [his];decide),his]
     repeat' first|((with_reducible first|apply XBr.tt|apply XBr.ff|refine XBr.y fun h=>?_|refine XBr.n fun h=>?_|refine XBr.dec (fun h=>?_) fun h=>?_|apply Chk.go|apply ChkA.go|apply ChkF.go|apply ChkB.go|apply zq.mk) <;> conv=>whnf)|(refine XIx.a ?_;conv=>whnf)|(with_reducible first|apply XBr.not|apply XAnd.mk|exact trivial)|(exact zg.mk rfl rfl)|(apply Walk.drawN (id:=52) za zd [] [] (hsU _) [_,_,_,_,_,_,_,_,_,_,_,_,_,_,_,_,_,_,_,_,_,_,_,_,_,_,_,_,_,_,_] (by kernel_rfl) rfl)|(((refine zb.ret (hw _) ?_);rw [c1f]);conv=>whnf)|fail
     exact XOut.int rfl
   obtain rfl : i = r.2.length:=by omega
   rw [List.drop_length,spE] at his
   clear hbd
   repeat' ((with_reducible first|refine XBr.y fun h=>?_|refine XBr.n fun h=>?_|refine XBr.dec (fun h=>?_) fun h=>?_|refine XInt.a ?_) <;> conv=>whnf)
   exact zj.go (p + 1) ⟨by omega,hgo his⟩ (by omega) rfl ⟨rfl,rfl,rfl,trivial⟩
  have h0 : trE s (s.truths.getD k default) = 0:=jO (f:=fun r : Sps=>spE s.last none r.2) (d:=default) fun j hj=>hps j (by omega)
  clear hps
  repeat' ((with_reducible first|refine XBr.y fun h=>?_|refine XBr.n fun h=>?_|refine XBr.dec (fun h=>?_) fun h=>?_|refine XInt.a ?_) <;> conv=>whnf)
  exact zj.go (k + 1) ⟨by omega,wi hs h0⟩ (by omega) rfl ⟨rfl,rfl,trivial⟩
 obtain rfl : k = s.truths.length:=by omega
 have h0:=jO hs
 rw [h0]
 clear hs
 repeat' ((with_reducible first|refine XBr.y fun h=>?_|refine XBr.n fun h=>?_|refine XBr.dec (fun h=>?_) fun h=>?_) <;> conv=>whnf)
 exact XOut.int rfl
end GA
end
section
namespace GA
open Go Go.RowKit Go.Proofs
theorem wc (s : Sn) (hb : SnB s) (p m l : Int) : Comp Tryz.prog 67 [rsA s,xA p m l] (.int .i64 (sttE s p m l)):=by
 have hck:=jJ s hb
 by_cases h0 : snE s = 0
 ·have ok:=zO.1 h0
  have p1:=ok.p1;have p2:=ok.p2;have t2:=ok.t2
  have ha:=qI s (by omega)
  have he : sttE s p m l = if plB s p = false then 1 else if inZ m 0 s.last = false \/ inZ l 1 (allN s) = false then 3 else 0:=by unfold sttE;rw [if_neg (fun e=>e h0)]
  have hpd : inZ p 0 (s.places - 1) = plB s p:=rfl
  rw [he]
  rw [h0] at hck
  cases h1 : plB s p with
  | false =>
    rw [if_pos rfl]
    refine Comp.body (T:=tab) (res:=[.tmp 4]) za [] Tryz.func67 rfl (by kernel_rfl) Tryz.ntmps67 rfl (by simp only [List.length_cons,List.length_nil];decide) (by simp only [lowL,rsL,xL];rfl) ?_;conv=>whnf
    repeat' first|((with_reducible first|apply XBr.ff|refine XBr.y2 fun h=>?_|refine XBr.n2 fun h=>?_|refine XBr.bne (fun h=>?_) fun h=>?_|refine XInt.a ?_) <;> conv=>whnf) | with_reducible apply XBr.not|((first|(refine zb.ret hck ?_)|((refine zb.ret (zX _ _ _) ?_);rw [hpd,h1]));conv=>whnf)|fail
    exact XOut.int rfl
  | true =>
    rw [if_neg (by simp)]
    cases h2 : inZ m 0 s.last with
    | false =>
      rw [if_pos (.inl rfl)]
      refine Comp.body (T:=tab) (res:=[.tmp 4]) za [] Tryz.func67 rfl (by kernel_rfl) Tryz.ntmps67 rfl (by simp only [List.length_cons,List.length_nil];decide) (by simp only [lowL,rsL,xL];rfl) ?_;conv=>whnf
      repeat' first|((with_reducible first|apply XBr.tt|apply XBr.ff|refine XBr.y2 fun h=>?_|refine XBr.n2 fun h=>?_|refine XBr.bne (fun h=>?_) fun h=>?_|refine XInt.a ?_|apply Chk.go|apply ChkA.go|apply ChkF.go|apply ChkB.go|apply zq.mk) <;> conv=>whnf)|(with_reducible first|apply XBr.not|apply XAnd.mk|exact trivial)|(exact zg.mk rfl rfl)|(apply Walk.drawN (id:=6) za zd [] [] (hsU _) [_,_,_,_,_,_,_,_,_,_,_,_] (by kernel_rfl) rfl)|((first|(refine zb.ret hck ?_)|((refine zb.ret (zX _ _ _) ?_);(first | rw [hpd,h1] | rw [h2])));conv=>whnf)|fail
      exact XOut.int rfl
    | true =>
      cases h3 : inZ l 1 (allN s) with
      | false =>
        rw [if_pos (.inr rfl)]
        refine Comp.body (T:=tab) (res:=[.tmp 4]) za [] Tryz.func67 rfl (by kernel_rfl) Tryz.ntmps67 rfl (by simp only [List.length_cons,List.length_nil];decide) (by simp only [lowL,rsL,xL];rfl) ?_;conv=>whnf
        repeat' first|((with_reducible first|apply XBr.tt|apply XBr.ff|refine XBr.y2 fun h=>?_|refine XBr.n2 fun h=>?_|refine XBr.bne (fun h=>?_) fun h=>?_|refine XInt.a ?_|apply Chk.go|apply ChkA.go|apply ChkF.go|apply ChkB.go|apply zq.mk) <;> conv=>whnf)|(with_reducible first|apply XBr.not|apply XAnd.mk|exact trivial)|(exact zg.mk rfl rfl)|(apply Walk.drawN (id:=6) za zd [] [] (hsU _) [_,_,_,_,_,_,_,_,_,_,_,_] (by kernel_rfl) rfl)|((first|(refine zb.ret hck ?_)|((refine zb.ret (zX _ _ _) ?_);(first | rw [hpd,h1] | rw [h2] | rw [h3]))|(refine zb.ret ha ?_));conv=>whnf)|fail
        exact XOut.int rfl
      | true =>
        rw [if_neg (by simp)]
        refine Comp.body (T:=tab) (res:=[.tmp 4]) za [] Tryz.func67 rfl (by kernel_rfl) Tryz.ntmps67 rfl (by simp only [List.length_cons,List.length_nil];decide) (by simp only [lowL,rsL,xL];rfl) ?_;conv=>whnf
        repeat' first|((with_reducible first|apply XBr.tt|refine XBr.y2 fun h=>?_|refine XBr.n2 fun h=>?_|refine XBr.bne (fun h=>?_) fun h=>?_|refine XInt.a ?_|apply Chk.go|apply ChkA.go|apply ChkF.go|apply ChkB.go|apply zq.mk) <;> conv=>whnf)|(with_reducible first|apply XBr.not|apply XAnd.mk|exact trivial)|(exact zg.mk rfl rfl)|(apply Walk.drawN (id:=6) za zd [] [] (hsU _) [_,_,_,_,_,_,_,_,_,_,_,_] (by kernel_rfl) rfl)|((first|(refine zb.ret hck ?_)|((refine zb.ret (zX _ _ _) ?_);(first | rw [hpd,h1] | rw [h2] | rw [h3]))|(refine zb.ret ha ?_));conv=>whnf)|fail
        exact XOut.int rfl
 ·have he : sttE s p m l = snE s:=by unfold sttE;rw [if_pos h0]
  rw [he]
  generalize snE s = e at h0 hck
  refine Comp.body (T:=tab) (res:=[.tmp 4]) za [] Tryz.func67 rfl (by kernel_rfl) Tryz.ntmps67 rfl (by simp only [List.length_cons,List.length_nil];decide) (by simp only [lowL,rsL,xL];rfl) ?_;conv=>whnf
  repeat' first|((with_reducible first|refine XBr.y2 fun h=>?_|refine XBr.n2 fun h=>?_|refine XBr.bne (fun h=>?_) fun h=>?_) <;> conv=>whnf)|((refine zb.ret hck ?_);conv=>whnf)|fail
  exact XOut.int rfl
theorem ku {s : Sn} (hb : SnB s) : SnB (ownS s):=by
 refine ⟨hb.w,?_,?_,fun r hr=>?_,fun t ht=>?_,fun t ht r hr=>?_⟩
 ·show (s.looks.map ownR).length <= 1000;rw [List.length_map];exact hb.k
 ·show (s.truths.map ownT).length <= 1000;rw [List.length_map];exact hb.t
 ·obtain ⟨r',h1,rfl⟩:=List.mem_map.1 (show r ∈ s.looks.map ownR from hr);exact hb.kl r' h1
 ·obtain ⟨t',h1,rfl⟩:=List.mem_map.1 (show t ∈ s.truths.map ownT from ht)
  show (t'.2.map fun r=>(false,r.2)).length <= 1000
  rw [List.length_map];exact hb.tl t' h1
 ·obtain ⟨t',h1,rfl⟩:=List.mem_map.1 (show t ∈ s.truths.map ownT from ht)
  obtain ⟨r',h2,rfl⟩:=List.mem_map.1 (show r ∈ t'.2.map fun r=>(false,r.2) from hr)
  exact hb.sl t' h1 r' h2
theorem SnEq.plB {s u : Sn} (e : SnEq s u) (p : Int) : GA.plB s p = GA.plB u p:=by unfold GA.plB;rw [e.places]
theorem SnEq.sttE {s u : Sn} (e : SnEq s u) (p m l : Int) : GA.sttE s p m l = GA.sttE u p m l:=by unfold GA.sttE;rw [e.err,e.plB,e.last,e.allN]
theorem SnEq.dryE {s u : Sn} (e : SnEq s u) (p m : Int) : GA.dryE s p m = GA.dryE u p m:=by unfold GA.dryE;rw [e.err,e.plB,e.last]
theorem SnEq.seenE {s u : Sn} (e : SnEq s u) (p l : Int) : GA.seenE s p l = GA.seenE u p l:=by unfold GA.seenE;rw [e.err,e.plB,e.allN]
theorem nat_ints (L : List Nat) : L.map natA = ints (L.map fun n : Nat=>(n : Int)):=by unfold ints;rw [List.map_map];rfl
theorem eqN (n1 n2 : Bool) (L : List Nat) (h : L.length <= 1000) : Comp Tryz.prog 72 [.sl n1 (L.map natA),.sl n2 (L.map natA)] (.bool true):=by
 rw [nat_ints];exact eqI n1 n2 _ (by rw [List.length_map];omega)
end GA
end
section
namespace GA
open Go Go.RowKit Go.Proofs
def rsZ : List AV:=[.int .i64 0,.int .i64 0,.int .i64 0,.int .i64 0,.sl true [],.sl true [],.sl true []]
set_option maxHeartbeats 8000000 in
theorem zcY (s : Sn) (p m l : Int) : Comp Tryz.prog 9 [snA s,.int .i64 p,.int .i64 m,.int .i64 l] (.bool true):=by
 have e0 : (((([] : List Nat).map natA).length : Nat) : Int) = 0:=rfl
 have hgr:=wb s
 cases hg : grtS s
 rotate_left
 ·rw [hg] at hgr
  refine Comp.body (T:=tab) (res:=[.tmp 8]) za [] Tryz.func9 rfl (by kernel_rfl) Tryz.ntmps9 rfl (by simp only [List.length_cons,List.length_nil];decide) (by simp only [lowL,AV.low,snL];rfl) ?_;conv=>whnf
  repeat' first|((first|(with_reducible apply XBr.tt)|(first|refine zb.ret hgr ?_|refine zb.ret zA ?_));conv=>whnf)|fail
  exact XOut.bool rfl
 rw [hg] at hgr
 have hb:=(grt_B hg).1
 have hbo:=ku hb
 have e:=kL s
 have how:=qt s hb
 have hth:=jx s hb
 have hrc:=jJ s hb
 have hck:=jp (ownS s) hbo
 have hdr:=fDry_c (ownS s) hbo p m
 have hse:=fSeen_c (ownS s) hbo p l
 have hsa:=wV s hb
 rw [<- e.err] at hck
 rw [<- e.dryE,<- e.drN] at hdr
 rw [<- e.seenE,<- e.parts] at hse
 by_cases h0 : snE s = 0
 rotate_left
 ·have hsf:=wW (ownS s) hbo p m l (by rw [<- e.sttE];unfold sttE;rw [if_pos h0];exact h0)
  rw [<- e.sttE,show sttE s p m l = snE s by unfold sttE;rw [if_pos h0]] at hsf
  rw [show dryE s p m = snE s by unfold dryE;rw [if_pos h0],if_neg h0] at hdr
  rw [show seenE s p l = snE s by unfold seenE;rw [if_pos h0],if_neg h0] at hse
  generalize snE s = v at *
  refine Comp.body (T:=tab) (res:=[.tmp 8]) za [] Tryz.func9 rfl (by kernel_rfl) Tryz.ntmps9 rfl (by simp only [List.length_cons,List.length_nil];decide) (by simp only [lowL,AV.low,snL];rfl) ?_;conv=>whnf
  repeat' first|((first|(with_reducible apply XBr.ff)|(refine zb.ret hgr ?_));conv=>whnf)|fail
  refine Walk.place (Walk.place (Walk.place ?_))
  apply Walk.drawX za zd [] [8,9,10,11,12,13] (fun fl=>match fl with
   | [a,b,c,x,y,z]=>[(bif a then .cells (bif x then snC (ownS s) else rsZ) else .free),(bif b then .cells (bif y then rsC s else rsZ) else .free),(bif c then .cells (bif z then [.int .i64 p,.int .i64 m,.int .i64 l] else [.int .i64 0,.int .i64 0,.int .i64 0]) else .free)]
   | _=>[]) [_,_,_,_,_,_,_,_,.ptr 0 0,.ptr 1 0,.ptr 2 0,_,_,_] (by kernel_rfl) rfl
  ·skip
   repeat' first|((with_reducible first|apply Chk.go|apply ChkA.go);conv=>whnf)|(with_reducible first|apply XAnd.mk|exact trivial)|(exact zg.mk rfl rfl)|((first|refine zb.ret how ?_|refine zb.ret hth ?_);conv=>whnf)|(first|((refine zt.at 0 rfl ?_);(conv=>whnf);exact zg.mk rfl rfl)|((refine zt.at 1 rfl ?_);(conv=>whnf);exact zg.mk rfl rfl)|((refine zt.at 2 rfl ?_);(conv=>whnf);exact zg.mk rfl rfl))|fail
  ·skip
   repeat' first|((with_reducible first|apply Chk.go|apply ChkF.go|apply ChkB.go);conv=>whnf)|(with_reducible first|apply XAnd.mk|exact trivial)|(exact zg.mk rfl rfl)|((first|refine zb.ret how ?_|refine zb.ret hth ?_);conv=>whnf)|(first|((refine zt.at 0 rfl ?_);(conv=>whnf);exact zg.mk rfl rfl)|((refine zt.at 1 rfl ?_);(conv=>whnf);exact zg.mk rfl rfl)|((refine zt.at 2 rfl ?_);(conv=>whnf);exact zg.mk rfl rfl))|fail
  conv=>whnf
  repeat' first|((with_reducible first|refine XBr.y2 fun h=>?_|refine XBr.n2 fun h=>?_|refine XBr.bne (fun h=>?_) fun h=>?_) <;> conv=>whnf)|((first|refine zb.ret hrc ?_|refine zb.ret hck ?_|refine zb.ret hdr ?_|refine zb.ret hse ?_|refine zb.ret hsf ?_);conv=>whnf)|fail
  refine Walk.norm za [] [(4,_),(9,_),(12,_),(13,_),(14,_),(15,_),(16,_),(17,_),(18,_)] ⟨rfl,rfl,rfl,rfl,rfl,rfl,rfl,rfl,rfl,trivial⟩ ?_
  conv=>whnf
  repeat' first|((with_reducible first|apply XBr.tt|apply XBr.ff|refine XBr.y1 fun h=>?_|refine XBr.n1 fun h=>?_|refine XBr.beq (fun h=>?_) fun h=>?_) <;> conv=>whnf) | with_reducible apply XBr.not|((first|refine zb.ret hsa ?_|refine zb.ret zA ?_);conv=>whnf)|fail
  exact XOut.bool rfl
 have ok:=zO.1 h0
 have p1:=ok.p1;have p2:=ok.p2;have t2:=ok.t2;have l1:=ok.l1;have l2:=ok.l2
 have hal:=qF ok
 rw [h0] at hrc hck
 have hst:=wc s hb p m l
 have hal2:=qI s (by omega)
 have hpd : plB s p = inZ p 0 (s.places - 1):=rfl
 have hde : dryE s p m = if plB s p = false then 1 else if inZ m 0 s.last = false then 3 else 0:=by unfold dryE;rw [if_neg (fun e=>e h0)]
 have hsee : seenE s p l = if plB s p = false then 1 else if inZ l 1 (allN s) = false then 3 else 0:=by unfold seenE;rw [if_neg (fun e=>e h0)]
 have hste : sttE s p m l = if plB s p = false then 1 else if inZ m 0 s.last = false \/ inZ l 1 (allN s) = false then 3 else 0:=by unfold sttE;rw [if_neg (fun e=>e h0)]
 cases h1 : plB s p with
 | false =>
   have h1':=h1
   rw [hpd,<- Bool.not_eq_true,zr] at h1'
   have hq1 : dryE s p m = 1:=by rw [hde,h1];rfl
   have hq2 : seenE s p l = 1:=by rw [hsee,h1];rfl
   have hq3 : sttE s p m l = 1:=by rw [hste,h1];rfl
   have hsf:=wW (ownS s) hbo p m l (by rw [<- e.sttE,hq3];decide)
   rw [<- e.sttE,hq3] at hsf
   rw [hq1,if_neg (by decide)] at hdr
   rw [hq2,if_neg (by decide)] at hse
   rw [hq3] at hst
   have heq:=eqN true true [] (by simp)
   refine Comp.body (T:=tab) (res:=[.tmp 8]) za [] Tryz.func9 rfl (by kernel_rfl) Tryz.ntmps9 rfl (by simp only [List.length_cons,List.length_nil];decide) (by simp only [lowL,AV.low,snL];rfl) ?_;conv=>whnf
   repeat' first|((first|(with_reducible apply XBr.ff)|(refine zb.ret hgr ?_));conv=>whnf)|fail
   refine Walk.place (Walk.place (Walk.place ?_))
   apply Walk.drawX za zd [] [8,9,10,11,12,13] (fun fl=>match fl with
    | [a,b,c,x,y,z]=>[(bif a then .cells (bif x then snC (ownS s) else rsZ) else .free),(bif b then .cells (bif y then rsC s else rsZ) else .free),(bif c then .cells (bif z then [.int .i64 p,.int .i64 m,.int .i64 l] else [.int .i64 0,.int .i64 0,.int .i64 0]) else .free)]
    | _=>[]) [_,_,_,_,_,_,_,_,.ptr 0 0,.ptr 1 0,.ptr 2 0,_,_,_] (by kernel_rfl) rfl
   ·skip
    repeat' first|((with_reducible first|apply Chk.go|apply ChkA.go);conv=>whnf)|(with_reducible first|apply XAnd.mk|exact trivial)|(exact zg.mk rfl rfl)|((first|refine zb.ret how ?_|refine zb.ret hth ?_);conv=>whnf)|(first|((refine zt.at 0 rfl ?_);(conv=>whnf);exact zg.mk rfl rfl)|((refine zt.at 1 rfl ?_);(conv=>whnf);exact zg.mk rfl rfl)|((refine zt.at 2 rfl ?_);(conv=>whnf);exact zg.mk rfl rfl))|fail
   ·skip
    repeat' first|((with_reducible first|apply Chk.go|apply ChkF.go|apply ChkB.go);conv=>whnf)|(with_reducible first|apply XAnd.mk|exact trivial)|(exact zg.mk rfl rfl)|((first|refine zb.ret how ?_|refine zb.ret hth ?_);conv=>whnf)|(first|((refine zt.at 0 rfl ?_);(conv=>whnf);exact zg.mk rfl rfl)|((refine zt.at 1 rfl ?_);(conv=>whnf);exact zg.mk rfl rfl)|((refine zt.at 2 rfl ?_);(conv=>whnf);exact zg.mk rfl rfl))|fail
   conv=>whnf
   repeat' first|((with_reducible first|apply XBr.tt|apply XBr.ff|refine XBr.y fun h=>?_|refine XBr.n fun h=>?_|refine XBr.dec (fun h=>?_) fun h=>?_|refine XBr.y1 fun h=>?_|refine XBr.n1 fun h=>?_|refine XBr.beq (fun h=>?_) fun h=>?_|refine XBr.y2 fun h=>?_|refine XBr.n2 fun h=>?_|refine XBr.bne (fun h=>?_) fun h=>?_) <;> conv=>whnf)|((first|refine zb.ret hrc ?_|refine zb.ret hck ?_|refine zb.ret hdr ?_|refine zb.ret hse ?_|refine zb.ret hsf ?_|(with_reducible refine XBr.no (by first | decide | simp) ?_)|refine zb.ret hst ?_);conv=>whnf)|fail
   all_goals
    refine Walk.norm za [] [(4,_),(9,_),(13,_),(14,_),(15,_),(16,_),(20,_),(21,_),(22,_),(23,_)] ⟨rfl,rfl,rfl,rfl,rfl,rfl,rfl,rfl,rfl,rfl,trivial⟩ ?_
    conv=>whnf
    repeat' first|((with_reducible first|apply XBr.tt|refine XBr.y1 fun h=>?_|refine XBr.n1 fun h=>?_|refine XBr.beq (fun h=>?_) fun h=>?_) <;> conv=>whnf)|((first|refine zb.ret heq ?_|refine zb.ret hsa ?_|refine zb.ret zA ?_);conv=>whnf)|fail
    exact XOut.bool rfl
 | true =>
   have h1':=h1
   rw [hpd,zr] at h1'
   cases h2 : inZ m 0 s.last with
   | false =>
     have h2':=h2
     rw [<- Bool.not_eq_true,zr] at h2'
     cases h3 : inZ l 1 (allN s) with
     | false =>
       have h3':=h3
       rw [<- Bool.not_eq_true,zr] at h3'
       have hq1 : dryE s p m = 3:=by rw [hde,h1,h2];rfl
       have hq2 : seenE s p l = 3:=by rw [hsee,h1,h3];rfl
       have hq3 : sttE s p m l = 3:=by rw [hste,h1,h2,h3];rfl
       have hsf:=wW (ownS s) hbo p m l (by rw [<- e.sttE,hq3];decide)
       rw [<- e.sttE,hq3] at hsf
       rw [hq1,if_neg (by decide)] at hdr
       rw [hq2,if_neg (by decide)] at hse
       rw [hq3] at hst
       have heq:=eqN true true [] (by simp)
       refine Comp.body (T:=tab) (res:=[.tmp 8]) za [] Tryz.func9 rfl (by kernel_rfl) Tryz.ntmps9 rfl (by simp only [List.length_cons,List.length_nil];decide) (by simp only [lowL,AV.low,snL];rfl) ?_;conv=>whnf
       repeat' first|((first|(with_reducible apply XBr.ff)|(refine zb.ret hgr ?_));conv=>whnf)|fail
       refine Walk.place (Walk.place (Walk.place ?_))
       apply Walk.drawX za zd [] [8,9,10,11,12,13] (fun fl=>match fl with
        | [a,b,c,x,y,z]=>[(bif a then .cells (bif x then snC (ownS s) else rsZ) else .free),(bif b then .cells (bif y then rsC s else rsZ) else .free),(bif c then .cells (bif z then [.int .i64 p,.int .i64 m,.int .i64 l] else [.int .i64 0,.int .i64 0,.int .i64 0]) else .free)]
        | _=>[]) [_,_,_,_,_,_,_,_,.ptr 0 0,.ptr 1 0,.ptr 2 0,_,_,_] (by kernel_rfl) rfl
       ·skip
        repeat' first|((with_reducible first|apply Chk.go|apply ChkA.go);conv=>whnf)|(with_reducible first|apply XAnd.mk|exact trivial)|(exact zg.mk rfl rfl)|((first|refine zb.ret how ?_|refine zb.ret hth ?_);conv=>whnf)|(first|((refine zt.at 0 rfl ?_);(conv=>whnf);exact zg.mk rfl rfl)|((refine zt.at 1 rfl ?_);(conv=>whnf);exact zg.mk rfl rfl)|((refine zt.at 2 rfl ?_);(conv=>whnf);exact zg.mk rfl rfl))|fail
       ·skip
        repeat' first|((with_reducible first|apply Chk.go|apply ChkF.go|apply ChkB.go);conv=>whnf)|(with_reducible first|apply XAnd.mk|exact trivial)|(exact zg.mk rfl rfl)|((first|refine zb.ret how ?_|refine zb.ret hth ?_);conv=>whnf)|(first|((refine zt.at 0 rfl ?_);(conv=>whnf);exact zg.mk rfl rfl)|((refine zt.at 1 rfl ?_);(conv=>whnf);exact zg.mk rfl rfl)|((refine zt.at 2 rfl ?_);(conv=>whnf);exact zg.mk rfl rfl))|fail
       conv=>whnf
       repeat' first|((with_reducible first|apply XBr.tt|apply XBr.ff|refine XBr.y fun h=>?_|refine XBr.n fun h=>?_|refine XBr.dec (fun h=>?_) fun h=>?_|refine XBr.y1 fun h=>?_|refine XBr.n1 fun h=>?_|refine XBr.beq (fun h=>?_) fun h=>?_|refine XBr.y2 fun h=>?_|refine XBr.n2 fun h=>?_|refine XBr.bne (fun h=>?_) fun h=>?_) <;> conv=>whnf)|((first|refine zb.ret hrc ?_|refine zb.ret hck ?_|refine zb.ret hdr ?_|refine zb.ret hse ?_|refine zb.ret hsf ?_|(with_reducible refine XBr.no (by first | decide | simp) ?_)|refine zb.ret hst ?_|refine zb.ret hal2 ?_);conv=>whnf)|fail
       all_goals
        refine Walk.norm za [] [(4,_),(9,_),(13,_),(14,_),(15,_),(16,_),(20,_),(21,_),(22,_),(23,_)] ⟨rfl,rfl,rfl,rfl,rfl,rfl,rfl,rfl,rfl,rfl,trivial⟩ ?_
        conv=>whnf
        repeat' first|((with_reducible first|apply XBr.tt|refine XBr.y1 fun h=>?_|refine XBr.n1 fun h=>?_|refine XBr.beq (fun h=>?_) fun h=>?_) <;> conv=>whnf)|((first|refine zb.ret heq ?_|refine zb.ret hsa ?_|refine zb.ret zA ?_);conv=>whnf)|fail
        exact XOut.bool rfl
     | true =>
       have h3':=h3
       rw [zr] at h3'
       have hq1 : dryE s p m = 3:=by rw [hde,h1,h2];rfl
       have hq2 : seenE s p l = 0:=by rw [hsee,h1,h3];rfl
       have hq3 : sttE s p m l = 3:=by rw [hste,h1,h2,h3];rfl
       have hsf:=wW (ownS s) hbo p m l (by rw [<- e.sttE,hq3];decide)
       rw [<- e.sttE,hq3] at hsf
       rw [hq1,if_neg (by decide)] at hdr
       rw [hq2,if_pos rfl] at hse
       rw [hq3] at hst
       have hrp:=gD s ok p.toNat l.toNat (by omega) (by omega)
       rw [show natA p.toNat = .int .i64 p by unfold natA;rw [Int.toNat_of_nonneg h1'.1],show natA l.toNat = .int .i64 l by unfold natA;rw [Int.toNat_of_nonneg (by omega)]] at hrp
       have heq:=eqN (zC s p.toNat l.toNat).isEmpty (zC s p.toNat l.toNat).isEmpty (zC s p.toNat l.toNat) (by have:=kI s p.toNat l.toNat;omega)
       generalize zC s p.toNat l.toNat = L at hse hrp heq
       refine Comp.body (T:=tab) (res:=[.tmp 8]) za [] Tryz.func9 rfl (by kernel_rfl) Tryz.ntmps9 rfl (by simp only [List.length_cons,List.length_nil];decide) (by simp only [lowL,AV.low,snL];rfl) ?_;conv=>whnf
       repeat' first|((first|(with_reducible apply XBr.ff)|(refine zb.ret hgr ?_));conv=>whnf)|fail
       refine Walk.place (Walk.place (Walk.place ?_))
       apply Walk.drawX za zd [] [8,9,10,11,12,13] (fun fl=>match fl with
        | [a,b,c,x,y,z]=>[(bif a then .cells (bif x then snC (ownS s) else rsZ) else .free),(bif b then .cells (bif y then rsC s else rsZ) else .free),(bif c then .cells (bif z then [.int .i64 p,.int .i64 m,.int .i64 l] else [.int .i64 0,.int .i64 0,.int .i64 0]) else .free)]
        | _=>[]) [_,_,_,_,_,_,_,_,.ptr 0 0,.ptr 1 0,.ptr 2 0,_,_,_] (by kernel_rfl) rfl
       ·skip
        repeat' first|((with_reducible first|apply Chk.go|apply ChkA.go);conv=>whnf)|(with_reducible first|apply XAnd.mk|exact trivial)|(exact zg.mk rfl rfl)|((first|refine zb.ret how ?_|refine zb.ret hth ?_);conv=>whnf)|(first|((refine zt.at 0 rfl ?_);(conv=>whnf);exact zg.mk rfl rfl)|((refine zt.at 1 rfl ?_);(conv=>whnf);exact zg.mk rfl rfl)|((refine zt.at 2 rfl ?_);(conv=>whnf);exact zg.mk rfl rfl))|fail
       ·skip
        repeat' first|((with_reducible first|apply Chk.go|apply ChkF.go|apply ChkB.go);conv=>whnf)|(with_reducible first|apply XAnd.mk|exact trivial)|(exact zg.mk rfl rfl)|((first|refine zb.ret how ?_|refine zb.ret hth ?_);conv=>whnf)|(first|((refine zt.at 0 rfl ?_);(conv=>whnf);exact zg.mk rfl rfl)|((refine zt.at 1 rfl ?_);(conv=>whnf);exact zg.mk rfl rfl)|((refine zt.at 2 rfl ?_);(conv=>whnf);exact zg.mk rfl rfl))|fail
       conv=>whnf
       repeat' first|((with_reducible first|apply XBr.tt|apply XBr.ff|refine XBr.y fun h=>?_|refine XBr.n fun h=>?_|refine XBr.dec (fun h=>?_) fun h=>?_|refine XBr.y1 fun h=>?_|refine XBr.n1 fun h=>?_|refine XBr.beq (fun h=>?_) fun h=>?_|refine XBr.y2 fun h=>?_|refine XBr.n2 fun h=>?_|refine XBr.bne (fun h=>?_) fun h=>?_) <;> conv=>whnf)|((first|refine zb.ret hrc ?_|refine zb.ret hck ?_|refine zb.ret hdr ?_|refine zb.ret hse ?_|refine zb.ret hsf ?_|(with_reducible refine XBr.no (by first | decide | simp) ?_)|refine zb.ret hst ?_|refine zb.ret hal2 ?_|refine zb.ret hrp ?_);conv=>whnf)|fail
       all_goals
        refine Walk.norm za [] [(4,_),(9,_),(13,_),(14,_),(15,_),(16,_),(20,_),(21,_),(22,_),(23,_)] ⟨rfl,rfl,rfl,rfl,rfl,rfl,rfl,rfl,rfl,rfl,trivial⟩ ?_
        conv=>whnf
        repeat' first|((with_reducible first|apply XBr.tt|refine XBr.y1 fun h=>?_|refine XBr.n1 fun h=>?_|refine XBr.beq (fun h=>?_) fun h=>?_) <;> conv=>whnf)|((first|refine zb.ret heq ?_|refine zb.ret hsa ?_|refine zb.ret zA ?_);conv=>whnf)|fail
        exact XOut.bool rfl
   | true =>
     have h2':=h2
     rw [zr] at h2'
     cases h3 : inZ l 1 (allN s) with
     | false =>
       have h3':=h3
       rw [<- Bool.not_eq_true,zr] at h3'
       have hq1 : dryE s p m = 0:=by rw [hde,h1,h2];rfl
       have hq2 : seenE s p l = 3:=by rw [hsee,h1,h3];rfl
       have hq3 : sttE s p m l = 3:=by rw [hste,h1,h2,h3];rfl
       have hsf:=wW (ownS s) hbo p m l (by rw [<- e.sttE,hq3];decide)
       rw [<- e.sttE,hq3] at hsf
       rw [hq1,if_pos rfl] at hdr
       rw [hq2,if_neg (by decide)] at hse
       rw [hq3] at hst
       have hrd:=rDry_c s hb ok p.toNat m.toNat (by omega)
       rw [show natA p.toNat = .int .i64 p by unfold natA;rw [Int.toNat_of_nonneg h1'.1],show natA m.toNat = .int .i64 m by unfold natA;rw [Int.toNat_of_nonneg h2'.1]] at hrd
       generalize drN s p.toNat m.toNat = dn at hdr hrd
       have heq:=eqN true true [] (by simp)
       refine Comp.body (T:=tab) (res:=[.tmp 8]) za [] Tryz.func9 rfl (by kernel_rfl) Tryz.ntmps9 rfl (by simp only [List.length_cons,List.length_nil];decide) (by simp only [lowL,AV.low,snL];rfl) ?_;conv=>whnf
       repeat' first|((first|(with_reducible apply XBr.ff)|(refine zb.ret hgr ?_));conv=>whnf)|fail
       refine Walk.place (Walk.place (Walk.place ?_))
       apply Walk.drawX za zd [] [8,9,10,11,12,13] (fun fl=>match fl with
        | [a,b,c,x,y,z]=>[(bif a then .cells (bif x then snC (ownS s) else rsZ) else .free),(bif b then .cells (bif y then rsC s else rsZ) else .free),(bif c then .cells (bif z then [.int .i64 p,.int .i64 m,.int .i64 l] else [.int .i64 0,.int .i64 0,.int .i64 0]) else .free)]
        | _=>[]) [_,_,_,_,_,_,_,_,.ptr 0 0,.ptr 1 0,.ptr 2 0,_,_,_] (by kernel_rfl) rfl
       ·skip
        repeat' first|((with_reducible first|apply Chk.go|apply ChkA.go);conv=>whnf)|(with_reducible first|apply XAnd.mk|exact trivial)|(exact zg.mk rfl rfl)|((first|refine zb.ret how ?_|refine zb.ret hth ?_);conv=>whnf)|(first|((refine zt.at 0 rfl ?_);(conv=>whnf);exact zg.mk rfl rfl)|((refine zt.at 1 rfl ?_);(conv=>whnf);exact zg.mk rfl rfl)|((refine zt.at 2 rfl ?_);(conv=>whnf);exact zg.mk rfl rfl))|fail
       ·skip
        repeat' first|((with_reducible first|apply Chk.go|apply ChkF.go|apply ChkB.go);conv=>whnf)|(with_reducible first|apply XAnd.mk|exact trivial)|(exact zg.mk rfl rfl)|((first|refine zb.ret how ?_|refine zb.ret hth ?_);conv=>whnf)|(first|((refine zt.at 0 rfl ?_);(conv=>whnf);exact zg.mk rfl rfl)|((refine zt.at 1 rfl ?_);(conv=>whnf);exact zg.mk rfl rfl)|((refine zt.at 2 rfl ?_);(conv=>whnf);exact zg.mk rfl rfl))|fail
       conv=>whnf
       repeat' first|((with_reducible first|apply XBr.tt|apply XBr.ff|refine XBr.y fun h=>?_|refine XBr.n fun h=>?_|refine XBr.dec (fun h=>?_) fun h=>?_|refine XBr.y1 fun h=>?_|refine XBr.n1 fun h=>?_|refine XBr.beq (fun h=>?_) fun h=>?_|refine XBr.y2 fun h=>?_|refine XBr.n2 fun h=>?_|refine XBr.bne (fun h=>?_) fun h=>?_) <;> conv=>whnf)|((first|refine zb.ret hrc ?_|refine zb.ret hck ?_|refine zb.ret hdr ?_|refine zb.ret hse ?_|refine zb.ret hsf ?_|(with_reducible refine XBr.no (by first | decide | simp) ?_)|refine zb.ret hst ?_|refine zb.ret hal2 ?_|refine zb.ret hrd ?_);conv=>whnf)|fail
       all_goals
        refine Walk.norm za [] [(4,_),(9,_),(13,_),(14,_),(15,_),(16,_),(20,_),(21,_),(22,_),(23,_)] ⟨rfl,rfl,rfl,rfl,rfl,rfl,rfl,rfl,rfl,rfl,trivial⟩ ?_
        conv=>whnf
        repeat' first|((with_reducible first|apply XBr.tt|refine XBr.y1 fun h=>?_|refine XBr.n1 fun h=>?_|refine XBr.beq (fun h=>?_) fun h=>?_) <;> conv=>whnf)|((first|refine zb.ret heq ?_|refine zb.ret hsa ?_|refine zb.ret zA ?_);conv=>whnf)|fail
        exact XOut.bool rfl
     | true =>
       have h3':=h3
       rw [zr] at h3'
       have hq1 : dryE s p m = 0:=by rw [hde,h1,h2];rfl
       have hq2 : seenE s p l = 0:=by rw [hsee,h1,h3];rfl
       have hq3 : sttE s p m l = 0:=by rw [hste,h1,h2,h3];rfl
       have hsf:=fSafe_ok (ownS s) hbo p m l (by rw [<- e.sttE,hq3])
       rw [<- e.safe] at hsf
       have hrs:=qk s hb ok (stN p m l) (by show ((p.toNat : Nat) : Int) < _;omega) (by show l.toNat <= _;omega)
       rw [<- v9 h1'.1 h2'.1 (show 0 <= l by omega)] at hrs
       generalize zW s (stN p m l) = bs at hsf hrs
       rw [hq1,if_pos rfl] at hdr
       rw [hq2,if_pos rfl] at hse
       rw [hq3] at hst
       have hrd:=rDry_c s hb ok p.toNat m.toNat (by omega)
       rw [show natA p.toNat = .int .i64 p by unfold natA;rw [Int.toNat_of_nonneg h1'.1],show natA m.toNat = .int .i64 m by unfold natA;rw [Int.toNat_of_nonneg h2'.1]] at hrd
       generalize drN s p.toNat m.toNat = dn at hdr hrd
       have hrp:=gD s ok p.toNat l.toNat (by omega) (by omega)
       rw [show natA p.toNat = .int .i64 p by unfold natA;rw [Int.toNat_of_nonneg h1'.1],show natA l.toNat = .int .i64 l by unfold natA;rw [Int.toNat_of_nonneg (by omega)]] at hrp
       have heq:=eqN (zC s p.toNat l.toNat).isEmpty (zC s p.toNat l.toNat).isEmpty (zC s p.toNat l.toNat) (by have:=kI s p.toNat l.toNat;omega)
       generalize zC s p.toNat l.toNat = L at hse hrp heq
       refine Comp.body (T:=tab) (res:=[.tmp 8]) za [] Tryz.func9 rfl (by kernel_rfl) Tryz.ntmps9 rfl (by simp only [List.length_cons,List.length_nil];decide) (by simp only [lowL,AV.low,snL];rfl) ?_;conv=>whnf
       repeat' first|((first|(with_reducible apply XBr.ff)|(refine zb.ret hgr ?_));conv=>whnf)|fail
       refine Walk.place (Walk.place (Walk.place ?_))
       apply Walk.drawX za zd [] [8,9,10,11,12,13] (fun fl=>match fl with
        | [a,b,c,x,y,z]=>[(bif a then .cells (bif x then snC (ownS s) else rsZ) else .free),(bif b then .cells (bif y then rsC s else rsZ) else .free),(bif c then .cells (bif z then [.int .i64 p,.int .i64 m,.int .i64 l] else [.int .i64 0,.int .i64 0,.int .i64 0]) else .free)]
        | _=>[]) [_,_,_,_,_,_,_,_,.ptr 0 0,.ptr 1 0,.ptr 2 0,_,_,_] (by kernel_rfl) rfl
       ·skip
        repeat' first|((with_reducible first|apply Chk.go|apply ChkA.go);conv=>whnf)|(with_reducible first|apply XAnd.mk|exact trivial)|(exact zg.mk rfl rfl)|((first|refine zb.ret how ?_|refine zb.ret hth ?_);conv=>whnf)|(first|((refine zt.at 0 rfl ?_);(conv=>whnf);exact zg.mk rfl rfl)|((refine zt.at 1 rfl ?_);(conv=>whnf);exact zg.mk rfl rfl)|((refine zt.at 2 rfl ?_);(conv=>whnf);exact zg.mk rfl rfl))|fail
       ·skip
        repeat' first|((with_reducible first|apply Chk.go|apply ChkF.go|apply ChkB.go);conv=>whnf)|(with_reducible first|apply XAnd.mk|exact trivial)|(exact zg.mk rfl rfl)|((first|refine zb.ret how ?_|refine zb.ret hth ?_);conv=>whnf)|(first|((refine zt.at 0 rfl ?_);(conv=>whnf);exact zg.mk rfl rfl)|((refine zt.at 1 rfl ?_);(conv=>whnf);exact zg.mk rfl rfl)|((refine zt.at 2 rfl ?_);(conv=>whnf);exact zg.mk rfl rfl))|fail
       conv=>whnf
       repeat' first|((with_reducible first|apply XBr.tt|apply XBr.ff|refine XBr.y fun h=>?_|refine XBr.n fun h=>?_|refine XBr.dec (fun h=>?_) fun h=>?_|refine XBr.y1 fun h=>?_|refine XBr.n1 fun h=>?_|refine XBr.beq (fun h=>?_) fun h=>?_|refine XBr.y2 fun h=>?_|refine XBr.n2 fun h=>?_|refine XBr.bne (fun h=>?_) fun h=>?_) <;> conv=>whnf)|((first|refine zb.ret hrc ?_|refine zb.ret hck ?_|refine zb.ret hdr ?_|refine zb.ret hse ?_|refine zb.ret hsf ?_|(with_reducible refine XBr.no (by first | decide | simp) ?_)|refine zb.ret hst ?_|refine zb.ret hal2 ?_|refine zb.ret hrd ?_|refine zb.ret hrp ?_|refine zb.ret hrs ?_);conv=>whnf)|fail
       all_goals
        refine Walk.norm za [] [(4,_),(9,_),(13,_),(14,_),(15,_),(16,_),(20,_),(21,_),(22,_),(23,_)] ⟨rfl,rfl,rfl,rfl,rfl,rfl,rfl,rfl,rfl,rfl,trivial⟩ ?_
        conv=>whnf
        repeat' first|((with_reducible first|apply XBr.tt|refine XBr.y1 fun h=>?_|refine XBr.n1 fun h=>?_|refine XBr.beq (fun h=>?_) fun h=>?_) <;> conv=>whnf)|((first|refine zb.ret heq ?_|refine zb.ret hsa ?_|refine zb.ret zA ?_);conv=>whnf)|fail
        exact XOut.bool rfl
end GA
end
section
namespace GA
open Go Go.RowKit Go.Proofs
theorem rReal_c (s : Sn) (hb : SnB s) (p : Nat) (t : Int × Int) : Comp Tryz.prog 247 [rsA s,natA p,sgA t] (.bool (realB s p t)):=by
 have b1:=hb.w
 have e1 : ((s.ways.map wyA).length : Int) = s.ways.length:=by rw [List.length_map]
 have hdef : realB s p t = if t.1 = p then t.2 == 1 else s.ways.any fun w=>yh w p t.1 && w.2.2 == t.2:=rfl
 by_cases h1 : t.1 = (p : Int)
 ·rw [hdef,if_pos h1]
  refine Comp.body (T:=tab) (res:=[.tmp 6]) za [] Tryz.func247 rfl (by kernel_rfl) Tryz.ntmps247 rfl (by simp only [List.length_cons,List.length_nil];decide) (by simp only [lowL,AV.low,rsL,sgL];rfl) ?_;conv=>whnf
  repeat' ((with_reducible first|refine XBr.y1 fun h=>?_|refine XBr.n1 fun h=>?_|refine XBr.beq (fun h=>?_) fun h=>?_) <;> conv=>whnf)
  exact XOut.bool rfl
 rw [hdef,if_neg h1]
 refine Comp.body (T:=tab) (res:=[.tmp 6]) za [] Tryz.func247 rfl (by kernel_rfl) Tryz.ntmps247 rfl (by simp only [List.length_cons,List.length_nil];decide) (by simp only [lowL,AV.low,rsL,sgL];rfl) ?_;conv=>whnf
 repeat' ((with_reducible first|refine XBr.y1 fun h=>?_|refine XBr.n1 fun h=>?_|refine XBr.beq (fun h=>?_) fun h=>?_) <;> conv=>whnf)
 refine Walk.loopK za [] [(1,_),(3,_),(5,_)] ⟨rfl,rfl,rfl,trivial⟩ (fun k : Nat=>k <= s.ways.length /\ ∀ j,j < k -> (yh (s.ways.getD j default) p t.1 && (s.ways.getD j default).2.2 == t.2) = false) (fun k=>[(7,natA k)]) (fun _=>[]) (fun k=>s.ways.length - k) 0 ⟨Nat.zero_le _,fun j hj=>by omega⟩ rfl ⟨rfl,trivial⟩ ?_
 rintro k ⟨hk,hs⟩
 conv=>whnf
 by_cases hlt : k < s.ways.length
 ·have hld:=leads_c (s.ways.getD k default) p t.1
  cases c1 : yh (s.ways.getD k default) p t.1 with
  | false =>
    rw [c1] at hld
    repeat' first|((with_reducible first|apply XBr.ff|refine XBr.y fun h=>?_|refine XBr.n fun h=>?_|refine XBr.dec (fun h=>?_) fun h=>?_|refine XInt.a ?_|apply Chk.go|apply ChkA.go|apply ChkF.go|apply ChkB.go|apply zq.mk) <;> conv=>whnf)|(refine XIx.a ?_;conv=>whnf)|(with_reducible first|apply XAnd.mk|exact trivial)|(exact zg.mk rfl rfl)|(apply Walk.drawN (id:=6) za zd [] [] (hsU _) [_,_,_,_,_,_,_,_,_,_,_,_,_,_,_,_,_,_,_,_] (by kernel_rfl) rfl)|((refine zb.ret hld ?_);conv=>whnf)|fail
    exact zj.go (k + 1) ⟨by omega,wi hs (by rw [c1];rfl)⟩ (by omega) rfl ⟨rfl,rfl,rfl,rfl,trivial⟩
  | true =>
    rw [c1] at hld
    by_cases c2 : (s.ways.getD k default).2.2 = t.2
    ·rw [List.any_eq_true.2 ⟨_,zk (d:=default) hlt,by rw [c1,c2];simp⟩]
     repeat' first|((with_reducible first|apply XBr.tt|refine XBr.y fun h=>?_|refine XBr.n fun h=>?_|refine XBr.dec (fun h=>?_) fun h=>?_|refine XBr.y1 fun h=>?_|refine XBr.n1 fun h=>?_|refine XBr.beq (fun h=>?_) fun h=>?_|apply Chk.go|apply ChkA.go|apply ChkF.go|apply ChkB.go|apply zq.mk) <;> conv=>whnf)|(refine XIx.a ?_;conv=>whnf)|(with_reducible first|apply XAnd.mk|exact trivial)|(exact zg.mk rfl rfl)|(apply Walk.drawN (id:=6) za zd [] [] (hsU _) [_,_,_,_,_,_,_,_,_,_,_,_,_,_,_,_,_,_,_,_] (by kernel_rfl) rfl)|((first|refine XArr.at _ (by omega) (by omega) rfl ?_|refine zb.ret hld ?_);conv=>whnf)|fail
     exact XOut.bool rfl
    ·skip
     repeat' first|((with_reducible first|apply XBr.tt|refine XBr.y fun h=>?_|refine XBr.n fun h=>?_|refine XBr.dec (fun h=>?_) fun h=>?_|refine XBr.y1 fun h=>?_|refine XBr.n1 fun h=>?_|refine XBr.beq (fun h=>?_) fun h=>?_|refine XInt.a ?_|apply Chk.go|apply ChkA.go|apply ChkF.go|apply ChkB.go|apply zq.mk) <;> conv=>whnf)|(refine XIx.a ?_;conv=>whnf)|(with_reducible first|apply XAnd.mk|exact trivial)|(exact zg.mk rfl rfl)|(apply Walk.drawN (id:=6) za zd [] [] (hsU _) [_,_,_,_,_,_,_,_,_,_,_,_,_,_,_,_,_,_,_,_] (by kernel_rfl) rfl)|((first|refine XArr.at _ (by omega) (by omega) rfl ?_|refine zb.ret hld ?_);conv=>whnf)|fail
     exact zj.go (k + 1) ⟨by omega,wi hs (by rw [c1,beq_eq_false_iff_ne.2 c2];rfl)⟩ (by omega) rfl ⟨rfl,rfl,rfl,rfl,trivial⟩
 obtain rfl : k = s.ways.length:=by omega
 have q : (s.ways.any fun w=>yh w p t.1 && w.2.2 == t.2) = false:=by
  rw [List.any_eq_false]
  intro w hw
  obtain ⟨j,hj,rfl⟩:=List.mem_iff_getElem.1 hw
  have:=hs j hj
  rw [List.getD_eq_getElem?_getD,List.getElem?_eq_getElem hj] at this
  simpa using this
 rw [q]
 clear hs
 repeat' ((with_reducible first|refine XBr.y fun h=>?_|refine XBr.n fun h=>?_|refine XBr.dec (fun h=>?_) fun h=>?_) <;> conv=>whnf)
 exact XOut.bool rfl
theorem outS_eq {s : Sn} (x : Sta) (q m' : Nat) {t2 : Int} (h : (x.m : Int) + t2 = m') : outS s x ((q : Int),t2) = (zC s q x.l).map fun l=>(⟨q,m',l⟩ : Sta):=by
 unfold outS
 dsimp only
 rw [Int.toNat_natCast,show ((x.m : Int) + t2).toNat = m' by omega]
theorem vZ (s : Sn) (hb : SnB s) (ok : SnOk s) (x : Sta) (hx : StOk s x) (hxl : x.l <= allN s) (t : Int × Int) : Comp Tryz.prog 76 [rsA s,staA x,sgA t] (stsA (zm s x t)):=by
 have p1:=ok.p1;have p2:=ok.p2;have l1:=ok.l1;have l2:=ok.l2
 have x1:=hx.p;have x2:=hx.m;have x3:=hx.l
 have hal:=qF ok
 have hre:=rReal_c s hb x.p t
 have hrw:=zaA ok x1 t
 have hsf:=qk s hb ok x x1 hxl
 rw [<- hrw] at hre
 cases h3 : (waysL s x.p).contains t with
 | false =>
   rw [kf (.inr (.inr h3))]
   rw [h3] at hre
   refine Comp.body (T:=tab) (res:=[.tmp 6]) za [] Tryz.func76 rfl (by kernel_rfl) Tryz.ntmps76 rfl (by simp only [List.length_cons,List.length_nil];decide) (by simp only [lowL,AV.low,rsL,staL,sgL];rfl) ?_;conv=>whnf
   skip
   refine Walk.norm za [] [(3,_),(4,_),(5,_),(6,_)] ⟨rfl,rfl,rfl,rfl,trivial⟩ ?_
   conv=>whnf
   repeat' first|((with_reducible first|apply XBr.tt|apply XBr.ff);conv=>whnf) | with_reducible apply XBr.not|((refine zb.ret hre ?_);conv=>whnf)|fail
   exact ⟨.low rfl⟩
 | true =>
   rw [h3] at hre
   have hw:=List.contains_iff_mem.1 h3
   obtain ⟨w1',w2',w3',w4'⟩:=yn ok hw
   obtain ⟨⟨q0,t2⟩,rfl⟩ : ∃ u : Int × Int,t = u:=⟨t,rfl⟩
   obtain ⟨q,rfl⟩ : ∃ q : Nat,q0 = q:=⟨q0.toNat,by dsimp only at w3';omega⟩
   dsimp only at w1' w2' w3' w4' h3
   obtain ⟨m',hm'⟩ : ∃ m' : Nat,(x.m : Int) + t2 = m':=⟨((x.m : Int) + t2).toNat,by omega⟩
   by_cases h2 : (x.m : Int) + t2 <= s.last
   rotate_left
   ·rw [kf (.inr (.inl (by dsimp only;rw [<- Bool.not_eq_true,zr];omega)))]
    refine Comp.body (T:=tab) (res:=[.tmp 6]) za [] Tryz.func76 rfl (by kernel_rfl) Tryz.ntmps76 rfl (by simp only [List.length_cons,List.length_nil];decide) (by simp only [lowL,AV.low,rsL,staL,sgL];rfl) ?_;conv=>whnf
    skip
    refine Walk.norm za [] [(3,_),(4,_),(5,_),(6,_)] ⟨rfl,rfl,rfl,rfl,trivial⟩ ?_
    conv=>whnf
    repeat' first|((with_reducible first|apply XBr.tt|apply XBr.ff|refine XBr.y fun h=>?_|refine XBr.n fun h=>?_|refine XBr.dec (fun h=>?_) fun h=>?_|refine XInt.a ?_) <;> conv=>whnf) | with_reducible apply XBr.not|((refine zb.ret hre ?_);conv=>whnf)|fail
    exact ⟨.low rfl⟩
   cases h1 : zW s x with
   | false =>
     rw [kf (.inl h1)]
     rw [h1] at hsf
     refine Comp.body (T:=tab) (res:=[.tmp 6]) za [] Tryz.func76 rfl (by kernel_rfl) Tryz.ntmps76 rfl (by simp only [List.length_cons,List.length_nil];decide) (by simp only [lowL,AV.low,rsL,staL,sgL];rfl) ?_;conv=>whnf
     skip
     refine Walk.norm za [] [(3,_),(4,_),(5,_),(6,_)] ⟨rfl,rfl,rfl,rfl,trivial⟩ ?_
     conv=>whnf
     repeat' first|((with_reducible first|apply XBr.tt|apply XBr.ff|refine XBr.y fun h=>?_|refine XBr.n fun h=>?_|refine XBr.dec (fun h=>?_) fun h=>?_|refine XInt.a ?_) <;> conv=>whnf) | with_reducible apply XBr.not|((first|refine zb.ret hre ?_|refine zb.ret hsf ?_);conv=>whnf)|fail
     exact ⟨.low rfl⟩
   | true =>
     rw [h1] at hsf
     have haf : zm s x ((q : Int),t2) = if ((zC s q x.l).map fun l=>(⟨q,m',l⟩ : Sta)).all (zW s) = true then (zC s q x.l).map (fun l=>(⟨q,m',l⟩ : Sta)) else []:=by
      unfold zm
      rw [outS_eq x q m' hm']
      by_cases ha : ((zC s q x.l).map fun l=>(⟨q,m',l⟩ : Sta)).all (zW s) = true
      ·rw [if_pos ⟨h1,zr.2 ⟨by dsimp only;omega,h2⟩,h3,ha⟩,if_pos ha]
      ·rw [if_neg (fun h=>ha h.2.2.2),if_neg ha]
     have hpt:=gD s ok q x.l (by omega) x3
     have hpl:=fun l (h : l ∈ zC s q x.l)=>jI ok h
     have hpn:=kI s q x.l
     rw [haf]
     generalize zC s q x.l = L at hpt hpl hpn
     have e1 : ((L.map natA).length : Int) = L.length:=by rw [List.length_map]
     refine Comp.body (T:=tab) (res:=[.tmp 6]) za [] Tryz.func76 rfl (by kernel_rfl) Tryz.ntmps76 rfl (by simp only [List.length_cons,List.length_nil];decide) (by simp only [lowL,AV.low,rsL,staL,sgL];rfl) ?_;conv=>whnf
     skip
     refine Walk.norm za [] [(3,_),(4,_),(5,_),(6,_)] ⟨rfl,rfl,rfl,rfl,trivial⟩ ?_
     conv=>whnf
     repeat' first|((with_reducible first|apply XBr.tt|apply XBr.ff|refine XBr.y fun h=>?_|refine XBr.n fun h=>?_|refine XBr.dec (fun h=>?_) fun h=>?_|refine XInt.a ?_) <;> conv=>whnf) | with_reducible apply XBr.not|((first|refine zb.ret hre ?_|refine zb.ret hsf ?_|refine zb.ret hpt ?_);conv=>whnf)|fail
     refine Walk.nilgr 7 167 rfl ?_
     refine Walk.loopGK za [] [(3,_),(4,_),(5,_),(8,_)] ⟨rfl,rfl,rfl,rfl,trivial⟩ (fun k : Nat=>k <= L.length /\ ∀ j,j < k -> zW s ⟨q,m',L.getD j default⟩ = true) (fun k=>[(6,.sl true []),(7,.gr 0 k),(9,natA k)]) (fun k=>[.grow 167 ((L.take k).map fun l=>(⟨q,m',l⟩ : Sta)).isEmpty (((L.take k).map fun l=>(⟨q,m',l⟩ : Sta)).map staA)]) (fun k=>L.length - k) 0 ⟨Nat.zero_le _,fun j hj=>by omega⟩ rfl ⟨rfl,rfl,rfl,trivial⟩ ?_ (fun _ _=>(show (1 : Nat) <= 1 from Nat.le_refl 1)) ?_
     ·intro k _
      refine ⟨fun z hz=>?_,fun z hz=>?_⟩
      ·rw [List.mem_singleton] at hz;subst hz;exact yb _
      ·simp only [List.cons_append,List.nil_append,List.mem_cons,List.not_mem_nil,or_false] at hz
       rcases hz with rfl | rfl | rfl | rfl | rfl | rfl | rfl <;> first | rfl|exact rsCL s|exact nsL _
     rintro k ⟨hk,hs⟩
     have hnx : k < L.length -> (L.take (k + 1)).map (fun l=>(⟨q,m',l⟩ : Sta)) = (L.take k).map (fun l=>(⟨q,m',l⟩ : Sta)) ++ [⟨q,m',L.getD k default⟩]:=fun h=>by rw [zD h,List.map_append];rfl
     have hall : k = L.length -> (L.take k).map (fun l=>(⟨q,m',l⟩ : Sta)) = L.map fun l=>(⟨q,m',l⟩ : Sta):=fun h=>by rw [h,List.take_length]
     have hkl : ((L.take k).map fun l=>(⟨q,m',l⟩ : Sta)).length = k:=by rw [List.length_map,List.length_take];omega
     generalize (L.take k).map (fun l=>(⟨q,m',l⟩ : Sta)) = R at hnx hall hkl
     have hRl : (R.map staA).length = k:=by rw [List.length_map];exact hkl
     conv=>whnf
     by_cases hlt : k < L.length
     ·have hsk:=qk s hb ok ⟨q,m',L.getD k default⟩ (by show (q : Int) < _;omega) (hpl _ (zk hlt))
      have hse : staA ⟨q,m',L.getD k default⟩ = .agg [natA q,.int .i64 ((x.m : Int) + t2),natA (L.getD k default)]:=by unfold staA natA;dsimp only;rw [hm']
      rw [hse] at hsk
      cases hq : zW s ⟨q,m',L.getD k default⟩ with
      | false =>
        rw [hq] at hsk
        rw [if_neg (fun h=>by
         have:=List.all_eq_true.1 h ⟨q,m',L.getD k default⟩ (List.mem_map_of_mem (f:=fun l=>(⟨q,m',l⟩ : Sta)) (zk hlt))
         rw [hq] at this;cases this)]
        repeat' first|((with_reducible first|apply XBr.ff|refine XBr.y fun h=>?_|refine XBr.n fun h=>?_|refine XBr.dec (fun h=>?_) fun h=>?_|refine XInt.a ?_|apply Chk.go|apply ChkA.go|apply ChkF.go|apply ChkB.go|apply zq.mk) <;> conv=>whnf)|(refine XIx.a ?_;conv=>whnf)|(with_reducible first|apply XBr.not|apply XAnd.mk|exact trivial)|(exact zg.mk rfl rfl)|(apply Walk.drawN (id:=8) za zd [] [12,13] (hsC [_,_,_]) [_,_,_,_,_,_,_,_,_,_,_,_,_,_] (by kernel_rfl) rfl)|((refine zb.ret hsk ?_);conv=>whnf)|fail
        exact ⟨.low rfl⟩
      | true =>
        rw [hq] at hsk
        repeat' first|((with_reducible first|apply XBr.tt|refine XBr.y fun h=>?_|refine XBr.n fun h=>?_|refine XBr.dec (fun h=>?_) fun h=>?_|refine XInt.a ?_|apply Chk.go|apply ChkA.go|apply ChkF.go|apply ChkB.go|apply zq.mk) <;> conv=>whnf)|((first|refine zh.a ?_|refine XIx.a ?_);conv=>whnf)|(with_reducible first|apply XBr.not|apply XAnd.mk|exact trivial)|(exact zg.mk rfl rfl)|(apply Walk.drawN (id:=8) za zd [] [12,13] (hsC [_,_,_]) [_,_,_,_,_,_,_,_,_,_,_,_,_,_] (by kernel_rfl) rfl)|((refine zb.ret hsk ?_);conv=>whnf)|fail
        refine zl.go (k + 1) [.cells [natA q,.int .i64 ((x.m : Int) + t2),natA (L.getD k default)]] ⟨by omega,wi hs hq⟩ (by omega) ?_ ⟨rfl,rfl,rfl,rfl,rfl,rfl,rfl,trivial⟩
        show [Blk.grow _ ((L.take (k + 1)).map fun l=>(⟨q,m',l⟩ : Sta)).isEmpty (((L.take (k + 1)).map fun l=>(⟨q,m',l⟩ : Sta)).map staA)] ++ _ = _
        rw [hnx hlt,zy,List.map_append,List.map_cons,List.map_nil,hse];rfl
     obtain rfl : k = L.length:=by omega
     have hR:=hall rfl
     rw [if_pos (List.all_eq_true.2 fun y hy=>by
      obtain ⟨l,hl,rfl⟩:=List.mem_map.1 hy
      obtain ⟨j,hj,rfl⟩:=List.mem_iff_getElem.1 hl
      have:=hs j hj
      rwa [List.getD_eq_getElem?_getD,List.getElem?_eq_getElem hj] at this),<- hR]
     clear hs
     repeat' ((with_reducible first|refine XBr.y fun h=>?_|refine XBr.n fun h=>?_|refine XBr.dec (fun h=>?_) fun h=>?_) <;> conv=>whnf)
     exact ⟨Froz.grow rfl hRl (yb _)⟩
end GA
end
section
namespace GA
open Go Go.RowKit Go.Proofs
theorem f6 (s : Sn) (x : Sta) (q : Nat) : ∀ k,(stpQ s x q k).length <= k
 | 0=>Nat.le_refl _
 | k + 1=>by
   have:=f6 s x q k
   rw [stpQ,List.length_append];split <;> simp only [List.length_cons,List.length_nil] <;> omega
theorem zcX (s : Sn) (x : Sta) : ∀ k,(stpK s x k).length <= k * 20
 | 0=>Nat.le_refl _
 | k + 1=>by
   have:=zcX s x k
   have:=f6 s x k 20
   rw [stpK,List.length_append];omega
theorem fD (s : Sn) (hb : SnB s) (ok : SnOk s) (x : Sta) (hx : StOk s x) (hxl : x.l <= allN s) : Comp Tryz.prog 79 [rsA s,staA x] (sgsA (zT s x)):=by
 have p1:=ok.p1;have p2:=ok.p2
 obtain ⟨P0,hP0⟩ : ∃ P0 : Nat,s.places = P0:=⟨s.places.toNat,by omega⟩
 have hfin : stpK s x P0 = zT s x:=by rw [stpK_eq ok,stepsS_go];unfold waysL;rw [hP0];rfl
 refine Comp.body (T:=tab) (res:=[.tmp 4]) za [] Tryz.func79 rfl (by kernel_rfl) Tryz.ntmps79 rfl (by simp only [List.length_cons,List.length_nil];decide) (by simp only [lowL,rsL,staL];rfl) ?_;conv=>whnf
 skip
 refine Walk.nilgr 5 181 rfl ?_
 refine Walk.loopGK za [] [(2,_),(3,_),(4,_)] ⟨rfl,rfl,rfl,trivial⟩ (fun p : Nat=>p <= P0) (fun p=>[(5,.gr 0 (stpK s x p).length),(6,natA p)]) (fun p=>[.grow 181 (stpK s x p).isEmpty ((stpK s x p).map sgA)]) (fun p=>P0 - p) 0 (Nat.zero_le _) rfl ⟨rfl,rfl,trivial⟩ ?_ (fun _ _=>(show (1 : Nat) <= 1 from Nat.le_refl 1)) ?_
 ·intro p _
  refine ⟨fun z hz=>?_,fun z hz=>?_⟩
  ·rw [List.mem_singleton] at hz;subst hz;exact zN _
  ·simp only [List.cons_append,List.nil_append,List.mem_cons,List.not_mem_nil,or_false] at hz
   rcases hz with rfl | rfl | rfl | rfl | rfl <;> first | rfl|exact rsCL s
 intro p hp
 have hlen:=zcX s x p
 have hnx : stpK s x (p + 1) = stpK s x p ++ stpQ s x p 20:=rfl
 have hend : p = P0 -> stpK s x p = zT s x:=fun h=>by rw [h,hfin]
 generalize stpK s x p = R0 at hlen hnx hend
 have hR0 : (R0.map sgA).length = R0.length:=List.length_map _
 conv=>whnf
 by_cases hlt : p < P0
 ·skip
  repeat' ((with_reducible first|refine XBr.y fun h=>?_|refine XBr.n fun h=>?_|refine XBr.dec (fun h=>?_) fun h=>?_) <;> conv=>whnf)
  refine Walk.loopGK za [] [(2,_),(3,_),(4,_),(6,_)] ⟨rfl,rfl,rfl,rfl,trivial⟩ (fun m : Nat=>m <= 20) (fun m=>[(5,.gr 0 (R0 ++ stpQ s x p m).length),(7,natA (m + 1))]) (fun m=>[.grow 181 (R0 ++ stpQ s x p m).isEmpty ((R0 ++ stpQ s x p m).map sgA)]) (fun m=>20 - m) 0 (Nat.zero_le _) (by rw [stpQ,List.append_nil]) ⟨by rw [stpQ,List.append_nil];rfl,rfl,trivial⟩ ?_ (fun _ _=>(show (1 : Nat) <= 1 from Nat.le_refl 1)) ?_
  ·intro m _
   refine ⟨fun z hz=>?_,fun z hz=>?_⟩
   ·rw [List.mem_singleton] at hz;subst hz;exact zN _
   ·simp only [List.cons_append,List.nil_append,List.mem_cons,List.not_mem_nil,or_false] at hz
    rcases hz with rfl | rfl | rfl | rfl | rfl | rfl <;> first | rfl|exact rsCL s
  intro m hm
  have hql:=f6 s x p m
  have hqx : R0 ++ stpQ s x p (m + 1) = (R0 ++ stpQ s x p m) ++ if goB s x ((p : Int),((m + 1 : Nat) : Int)) = true then [((p : Int),((m + 1 : Nat) : Int))] else []:=by rw [stpQ,List.append_assoc]
  have hqend : m = 20 -> R0 ++ stpQ s x p m = stpK s x (p + 1):=fun h=>by rw [h,hnx]
  have hRl : (R0 ++ stpQ s x p m).length <= 200:=by rw [List.length_append];omega
  generalize R0 ++ stpQ s x p m = R at hqx hqend hRl
  have hR : (R.map sgA).length = R.length:=List.length_map _
  conv=>whnf
  by_cases hlt2 : m < 20
  ·have haf:=vZ s hb ok x hx hxl ((p : Int),((m + 1 : Nat) : Int))
   have hgo : goB s x ((p : Int),((m + 1 : Nat) : Int)) = !(zm s x ((p : Int),((m + 1 : Nat) : Int))).isEmpty:=rfl
   cases hA : zm s x ((p : Int),((m + 1 : Nat) : Int)) with
   | nil =>
     rw [hA] at haf hgo
     have e0 : (([] : List AV).length : Int) = 0:=rfl
     have haf' : Comp Tryz.prog 76 [rsA s,staA x,sgA ((p : Int),((m + 1 : Nat) : Int))] (.sl true []):=haf
     have hx' : R0 ++ stpQ s x p (m + 1) = R:=by rw [hqx,hgo];simp
     repeat' first|((with_reducible first|refine XBr.y fun h=>?_|refine XBr.n fun h=>?_|refine XBr.dec (fun h=>?_) fun h=>?_|refine XInt.a ?_) <;> conv=>whnf)|((refine zb.ret haf' ?_);conv=>whnf)|fail
     refine zl.go (m + 1) [] (by omega) (by omega) (by show [Blk.grow _ (R0 ++ stpQ s x p (m + 1)).isEmpty ((R0 ++ stpQ s x p (m + 1)).map sgA)] ++ [] = _;rw [hx'];rfl) ⟨rfl,rfl,rfl,rfl,(by rw [hx'];rfl),rfl,trivial⟩
   | cons y0 L =>
     rw [hA] at haf hgo
     have e2 : (((y0 :: L).map staA).length : Int) = L.length + 1:=by rw [List.length_map,List.length_cons];omega
     have haf' : Comp Tryz.prog 76 [rsA s,staA x,sgA ((p : Int),((m + 1 : Nat) : Int))] (.sl false ((y0 :: L).map staA)):=haf
     have hx' : R0 ++ stpQ s x p (m + 1) = R ++ [((p : Int),((m + 1 : Nat) : Int))]:=by rw [hqx,hgo];simp
     generalize (y0 :: L).map staA = M at e2 haf'
     repeat' first|((with_reducible first|refine XBr.y fun h=>?_|refine XBr.n fun h=>?_|refine XBr.dec (fun h=>?_) fun h=>?_|refine XInt.a ?_) <;> conv=>whnf)|((first|refine zh.a ?_|refine zb.ret haf' ?_);conv=>whnf)|fail
     refine zl.go (m + 1) [] (by omega) (by omega) (by show [Blk.grow _ (R0 ++ stpQ s x p (m + 1)).isEmpty ((R0 ++ stpQ s x p (m + 1)).map sgA)] ++ [] = _;rw [hx',zy,List.map_append];rfl) ⟨rfl,rfl,rfl,rfl,(by show some (AV.gr 0 (R.length + 1)) = _;rw [hx',List.length_append];rfl),rfl,trivial⟩
  obtain rfl : m = 20:=by omega
  have hq:=hqend rfl
  subst hq
  repeat' ((with_reducible first|refine XBr.y fun h=>?_|refine XBr.n fun h=>?_|refine XBr.dec (fun h=>?_) fun h=>?_|refine XInt.a ?_) <;> conv=>whnf)
  exact zl.go (p + 1) [] (by omega) (by omega) rfl ⟨rfl,rfl,rfl,rfl,rfl,trivial⟩
 obtain rfl : p = P0:=by omega
 rw [<- hend rfl]
 repeat' ((with_reducible first|refine XBr.y fun h=>?_|refine XBr.n fun h=>?_|refine XBr.dec (fun h=>?_) fun h=>?_) <;> conv=>whnf)
 exact ⟨Froz.grow rfl hR0 (zN _)⟩
theorem gone (nl : Bool) (l : List (Int × Int)) (h1 : l.length <= 100000) : Comp Tryz.prog 78 [.sl nl (l.map sgA)] (.sl l.isEmpty (l.map sgA)):=by
 have e1 : ((l.map sgA).length : Int) = l.length:=by rw [List.length_map]
 refine Comp.body (T:=tab) (res:=[.tmp 2]) za [] Tryz.func78 rfl (by kernel_rfl) Tryz.ntmps78 rfl (by simp only [List.length_cons,List.length_nil];decide) (by simp only [lowL,AV.low,zN];rfl) ?_;conv=>whnf
 skip
 refine Walk.nilgr 3 181 rfl ?_
 refine Walk.loopGK za [] [(2,_),(6,_),(7,_)] ⟨rfl,rfl,rfl,trivial⟩ (fun k : Nat=>k <= l.length) (fun k=>[(3,.gr 0 k),(8,natA k)]) (fun k=>[.grow 181 (l.take k).isEmpty ((l.take k).map sgA)]) (fun k=>l.length - k) 0 (Nat.zero_le _) rfl ⟨rfl,rfl,trivial⟩ ?_ (fun _ _=>(show (1 : Nat) <= 1 from Nat.le_refl 1)) ?_
 ·intro k _
  refine ⟨fun z hz=>?_,fun z hz=>?_⟩
  ·rw [List.mem_singleton] at hz;subst hz;exact zN _
  ·simp only [List.cons_append,List.nil_append,List.mem_cons,List.not_mem_nil,or_false] at hz
   rcases hz with rfl | rfl | rfl | rfl | rfl <;> first | rfl|exact zN _
 intro k hk
 have hnx:=fun h=>zD (xs:=l) (i:=k) h
 have hall : k = l.length -> l.take k = l:=fun h=>by rw [h,List.take_length]
 have hkl : (l.take k).length = k:=by rw [List.length_take];omega
 generalize l.take k = R at hnx hall hkl
 have hRl : (R.map sgA).length = k:=by rw [List.length_map];exact hkl
 conv=>whnf
 by_cases hlt : k < l.length
 ·skip
  repeat' first|((with_reducible first|refine XBr.y fun h=>?_|refine XBr.n fun h=>?_|refine XBr.dec (fun h=>?_) fun h=>?_|refine XInt.a ?_) <;> conv=>whnf)|((first|refine zh.a ?_|refine XIx.a ?_);conv=>whnf)|fail
  refine zl.go (k + 1) [.cells (sgA (l.getD k default)).cells] (by omega) (by omega) ?_ ⟨rfl,rfl,rfl,rfl,rfl,trivial⟩
  show [Blk.grow _ (l.take (k + 1)).isEmpty ((l.take (k + 1)).map sgA)] ++ _ = _
  rw [hnx hlt,zy,List.map_append];rfl
 obtain rfl : k = l.length:=by omega
 obtain rfl:=hall rfl
 repeat' ((with_reducible first|refine XBr.y fun h=>?_|refine XBr.n fun h=>?_|refine XBr.dec (fun h=>?_) fun h=>?_) <;> conv=>whnf)
 exact ⟨Froz.grow rfl hRl (zN _)⟩
theorem been (nl : Bool) (l : List Sta) (h1 : l.length <= 100000) : Comp Tryz.prog 81 [.sl nl (l.map staA)] (.sl l.isEmpty (l.map staA)):=by
 have e1 : ((l.map staA).length : Int) = l.length:=by rw [List.length_map]
 refine Comp.body (T:=tab) (res:=[.tmp 2]) za [] Tryz.func81 rfl (by kernel_rfl) Tryz.ntmps81 rfl (by simp only [List.length_cons,List.length_nil];decide) (by simp only [lowL,AV.low,yb];rfl) ?_;conv=>whnf
 skip
 refine Walk.nilgr 3 167 rfl ?_
 refine Walk.loopGK za [] [(2,_),(6,_),(7,_)] ⟨rfl,rfl,rfl,trivial⟩ (fun k : Nat=>k <= l.length) (fun k=>[(3,.gr 0 k),(8,natA k)]) (fun k=>[.grow 167 (l.take k).isEmpty ((l.take k).map staA)]) (fun k=>l.length - k) 0 (Nat.zero_le _) rfl ⟨rfl,rfl,trivial⟩ ?_ (fun _ _=>(show (1 : Nat) <= 1 from Nat.le_refl 1)) ?_
 ·intro k _
  refine ⟨fun z hz=>?_,fun z hz=>?_⟩
  ·rw [List.mem_singleton] at hz;subst hz;exact yb _
  ·simp only [List.cons_append,List.nil_append,List.mem_cons,List.not_mem_nil,or_false] at hz
   rcases hz with rfl | rfl | rfl | rfl | rfl <;> first | rfl|exact yb _
 intro k hk
 have hnx:=fun h=>zD (xs:=l) (i:=k) h
 have hall : k = l.length -> l.take k = l:=fun h=>by rw [h,List.take_length]
 have hkl : (l.take k).length = k:=by rw [List.length_take];omega
 generalize l.take k = R at hnx hall hkl
 have hRl : (R.map staA).length = k:=by rw [List.length_map];exact hkl
 conv=>whnf
 by_cases hlt : k < l.length
 ·skip
  repeat' first|((with_reducible first|refine XBr.y fun h=>?_|refine XBr.n fun h=>?_|refine XBr.dec (fun h=>?_) fun h=>?_|refine XInt.a ?_) <;> conv=>whnf)|((first|refine zh.a ?_|refine XIx.a ?_);conv=>whnf)|fail
  refine zl.go (k + 1) [.cells (staA (l.getD k default)).cells] (by omega) (by omega) ?_ ⟨rfl,rfl,rfl,rfl,rfl,trivial⟩
  show [Blk.grow _ (l.take (k + 1)).isEmpty ((l.take (k + 1)).map staA)] ++ _ = _
  rw [hnx hlt,zy,List.map_append];rfl
 obtain rfl : k = l.length:=by omega
 obtain rfl:=hall rfl
 repeat' ((with_reducible first|refine XBr.y fun h=>?_|refine XBr.n fun h=>?_|refine XBr.dec (fun h=>?_) fun h=>?_) <;> conv=>whnf)
 exact ⟨Froz.grow rfl hRl (yb _)⟩
theorem equal_rsg (n1 n2 : Bool) (xs : List (Int × Int)) (hx : xs.length <= 100000) : Comp Tryz.prog 248 [.sl n1 (xs.map (sgA)),.sl n2 (xs.map (sgA))] (.bool true):=by
 refine Comp.body (T:=tab) (res:=[.tmp 4]) za [] Tryz.func248 rfl (by kernel_rfl) Tryz.ntmps248 rfl (by simp only [List.length_cons,List.length_nil];decide) (by simp only [lowL,AV.low,zN];rfl) ?_;conv=>whnf
 repeat' ((with_reducible first|refine XBr.y2 fun h=>?_|refine XBr.n2 fun h=>?_|refine XBr.bne (fun h=>?_) fun h=>?_) <;> conv=>whnf)
 refine Walk.loopK za [] [(0,_),(1,_),(12,_)] ⟨rfl,rfl,rfl,trivial⟩ (fun i : Nat=>i <= xs.length) (fun i=>[(13,natA i)]) (fun _=>[]) (fun i=>xs.length - i) 0 (Nat.zero_le _) rfl ⟨rfl,trivial⟩ ?_
 intro i hi
 conv=>whnf
 have e1 : ((xs.map (sgA)).length : Int) = xs.length:=by rw [List.length_map]
 by_cases hlt : i < xs.length
 ·skip
  repeat' first|((with_reducible first|apply XBr.ff|refine XBr.y fun h=>?_|refine XBr.n fun h=>?_|refine XBr.dec (fun h=>?_) fun h=>?_|refine XInt.a ?_|apply Chk.go|apply ChkA.go|apply ChkF.go|apply ChkB.go|apply zq.mk) <;> conv=>whnf)|(refine XIx.a ?_;conv=>whnf)|(with_reducible first|apply XAnd.mk|exact trivial)|(exact zg.mk rfl rfl)|(apply Walk.drawN (id:=6) za zd [] [] (hsU _) [_,_,_,_,_,_,_,_,_] (by kernel_rfl) rfl)|((refine XEqA.mk ⟨[(xs.getD i default).1,(xs.getD i default).2],[(xs.getD i default).1,(xs.getD i default).2],rfl,rfl,rfl,rfl,?_⟩);exact zg.mk (show AV.bool (!(_ == _)) = AV.bool false by simp) rfl)|fail
  exact zj.go (i + 1) (by omega) (by omega) rfl ⟨rfl,rfl,rfl,rfl,trivial⟩
 obtain rfl : i = xs.length:=by omega
 repeat' ((with_reducible first|refine XBr.y fun h=>?_|refine XBr.n fun h=>?_|refine XBr.dec (fun h=>?_) fun h=>?_) <;> conv=>whnf)
 exact XOut.bool rfl
theorem eq_rsg (n1 n2 : Bool) (xs : List (Int × Int)) (hx : xs.length <= 100000) : Comp Tryz.prog 77 [.sl n1 (xs.map (sgA)),.sl n2 (xs.map (sgA))] (.bool true):=by
 refine Comp.body (T:=tab) (res:=[.tmp 4]) za [] Tryz.func77 rfl (by kernel_rfl) Tryz.ntmps77 rfl (by simp only [List.length_cons,List.length_nil];decide) (by simp only [lowL,AV.low,zN];rfl) ?_;conv=>whnf
 repeat' ((refine zb.ret (equal_rsg n1 n2 xs hx) ?_);conv=>whnf)
 exact XOut.bool rfl
theorem zdl (n1 n2 : Bool) (xs : List Sta) (hx : xs.length <= 100000) : Comp Tryz.prog 249 [.sl n1 (xs.map (staA)),.sl n2 (xs.map (staA))] (.bool true):=by
 refine Comp.body (T:=tab) (res:=[.tmp 4]) za [] Tryz.func249 rfl (by kernel_rfl) Tryz.ntmps249 rfl (by simp only [List.length_cons,List.length_nil];decide) (by simp only [lowL,AV.low,yb];rfl) ?_;conv=>whnf
 repeat' ((with_reducible first|refine XBr.y2 fun h=>?_|refine XBr.n2 fun h=>?_|refine XBr.bne (fun h=>?_) fun h=>?_) <;> conv=>whnf)
 refine Walk.loopK za [] [(0,_),(1,_),(12,_)] ⟨rfl,rfl,rfl,trivial⟩ (fun i : Nat=>i <= xs.length) (fun i=>[(13,natA i)]) (fun _=>[]) (fun i=>xs.length - i) 0 (Nat.zero_le _) rfl ⟨rfl,trivial⟩ ?_
 intro i hi
 conv=>whnf
 have e1 : ((xs.map (staA)).length : Int) = xs.length:=by rw [List.length_map]
 by_cases hlt : i < xs.length
 ·skip
  repeat' first|((with_reducible first|apply XBr.ff|refine XBr.y fun h=>?_|refine XBr.n fun h=>?_|refine XBr.dec (fun h=>?_) fun h=>?_|refine XInt.a ?_|apply Chk.go|apply ChkA.go|apply ChkF.go|apply ChkB.go|apply zq.mk) <;> conv=>whnf)|(refine XIx.a ?_;conv=>whnf)|(with_reducible first|apply XAnd.mk|exact trivial)|(exact zg.mk rfl rfl)|(apply Walk.drawN (id:=6) za zd [] [] (hsU _) [_,_,_,_,_,_,_,_,_] (by kernel_rfl) rfl)|((refine XEqA.mk ⟨[((xs.getD i default).p : Int),((xs.getD i default).m : Int),((xs.getD i default).l : Int)],[((xs.getD i default).p : Int),((xs.getD i default).m : Int),((xs.getD i default).l : Int)],rfl,rfl,rfl,rfl,?_⟩);exact zg.mk (show AV.bool (!(_ == _)) = AV.bool false by simp) rfl)|fail
  exact zj.go (i + 1) (by omega) (by omega) rfl ⟨rfl,rfl,rfl,rfl,trivial⟩
 obtain rfl : i = xs.length:=by omega
 repeat' ((with_reducible first|refine XBr.y fun h=>?_|refine XBr.n fun h=>?_|refine XBr.dec (fun h=>?_) fun h=>?_) <;> conv=>whnf)
 exact XOut.bool rfl
theorem eq_rsta (n1 n2 : Bool) (xs : List Sta) (hx : xs.length <= 100000) : Comp Tryz.prog 80 [.sl n1 (xs.map (staA)),.sl n2 (xs.map (staA))] (.bool true):=by
 refine Comp.body (T:=tab) (res:=[.tmp 4]) za [] Tryz.func80 rfl (by kernel_rfl) Tryz.ntmps80 rfl (by simp only [List.length_cons,List.length_nil];decide) (by simp only [lowL,AV.low,yb];rfl) ?_;conv=>whnf
 repeat' ((refine zb.ret (zdl n1 n2 xs hx) ?_);conv=>whnf)
 exact XOut.bool rfl
end GA
end
section
namespace GA
open Go Go.RowKit Go.Proofs
theorem zcF {α : Type} {p : α -> Bool} (d : α) : ∀ l : List α,(l.find? p = none /\ idxR p l = -1) \/ ∃ i,i < l.length /\ idxR p l = (i : Int) /\ l.find? p = some (l.getD i d)
 | []=>.inl ⟨rfl,rfl⟩
 | x :: l=>by
   by_cases h : p x = true
   ·refine .inr ⟨0,by simp,?_,by rw [List.find?_cons,h];rfl⟩
    unfold idxR
    rw [List.findIdx?_cons,if_pos h]
   ·have hf : (x :: l).find? p = l.find? p:=by simp [List.find?_cons,h]
    have hi : idxR p (x :: l) = match l.findIdx? p with | some i=>((i + 1 : Nat) : Int) | none=>-1:=by
     unfold idxR
     rw [List.findIdx?_cons,if_neg h]
     cases l.findIdx? p <;> rfl
    rcases zcF d l with ⟨h1,h2⟩ | ⟨i,h1,h2,h3⟩
    ·refine .inl ⟨by rw [hf];exact h1,?_⟩
     rw [hi]
     unfold idxR at h2
     cases hq : l.findIdx? p with
     | none=>rfl
     | some i=>rw [hq] at h2;dsimp only at h2;omega
    ·refine .inr ⟨i + 1,by simpa using h1,?_,by rw [hf];exact h3⟩
     rw [hi]
     unfold idxR at h2
     cases hq : l.findIdx? p with
     | none=>rw [hq] at h2;dsimp only at h2;omega
     | some j =>
       rw [hq] at h2
       have h4 : (j : Int) = i:=h2
       have h5 : j = i:=by omega
       rw [h5]
def lowB (l : Nat) : Nat:=((List.range 4).find? fun i=>l.testBit i).getD 0
theorem lowB_lt (l : Nat) : lowB l < 4:=by
 unfold lowB
 cases h : (List.range 4).find? fun i=>l.testBit i with
 | none=>decide
 | some i=>exact List.mem_range.1 (List.mem_of_find?_eq_some h)
theorem zcL : ∀ l : Fin 16,l.val ≠ 0 -> l.val.testBit (lowB l.val) = true /\ iand .i64 (l.val : Int) (0 - (l.val : Int)) = ((2 ^ lowB l.val : Nat) : Int):=by decide +kernel
theorem zds : ∀ l : Fin 16,∀ i : Fin 4,i.val < lowB l.val -> l.val.testBit i.val = false:=by decide +kernel
def drvS (s : Sn) (b : Nat) : Sta -> List (Int × Int) -> Option (List Sta)
 | _,[]=>some []
 | x,t :: l=>match (zm s x t).find? (fun y=>y.l.testBit b) with
   | none=>none
   | some y=>(drvS s b y l).map (y :: ·)
def bitP (b : Nat) (y : Sta) : Bool:=y.l.testBit b
theorem drive1_c (b : Nat) (hb : b < 4) (y : Sta) (hy : y.l <= 1000) : Comp Tryz.prog 251 [staA y,.pim [natA (2 ^ b)]] (.bool (bitP b y)):=by
 have hp : 2 ^ b <= 2 ^ 4:=Nat.pow_le_pow_right (by omega) (by omega)
 have ha : iand .i64 (y.l : Int) ((2 ^ b : Nat) : Int) = ((y.l &&& 2 ^ b : Nat) : Int):=fI (by omega) (by omega)
 have hz : (y.l &&& 2 ^ b ≠ 0) ↔ bitP b y = true:=by
  unfold bitP
  constructor
  ·intro h
   refine Classical.byContradiction fun e=>h (vk fun i=>?_)
   rw [Nat.testBit_and,Nat.testBit_two_pow,Nat.zero_testBit]
   by_cases hi : b = i
   ·subst hi;simp [Bool.not_eq_true] at e ⊢;exact e
   ·simp [hi]
  ·intro h e
   have h2:=congrArg (fun n=>n.testBit b) e
   simp only [Nat.testBit_and,Nat.testBit_two_pow,Nat.zero_testBit,h] at h2
   simp at h2
 generalize y.l &&& 2 ^ b = v at ha hz
 refine Comp.body (T:=tab) (res:=[.tmp 3]) za [] Tryz.func251 rfl (by kernel_rfl) Tryz.ntmps251 rfl (by simp only [List.length_cons,List.length_nil];decide) (by rfl) ?_;conv=>whnf
 skip
 all_goals (refine XOut.bool ?_;rw [Bool.eq_iff_iff,<- hz];first|(rw [show iand .i64 (y.l : Int) ((2 ^ b : Nat) : Int) = (v : Int) from ha,bne_iff_ne];omega) | skip)
theorem fDrive_no (s : Sn) (hb : SnB s) (p m l : Int) (nl : Bool) (T : List (Int × Int)) (h : sttE s p m l ≠ 0) : Comp Tryz.prog 82 [snA s,xA p m l,.sl nl (T.map sgA)] (.tup [.sl true [],.int .i64 (sttE s p m l)]):=by
 have hs:=jq s hb p m l h
 generalize sttE s p m l = e at h hs
 refine Comp.body (T:=tab) (res:=[.tmp 6,.tmp 7]) za [4,36] Tryz.func82 rfl (by kernel_rfl) Tryz.ntmps82 rfl (by simp only [List.length_cons,List.length_nil];decide) (by simp only [lowL,AV.low,snL,xL,zN];rfl) ?_;conv=>whnf
 repeat' first|((with_reducible first|refine XBr.y2 fun h=>?_|refine XBr.n2 fun h=>?_|refine XBr.bne (fun h=>?_) fun h=>?_) <;> conv=>whnf)|((refine zb.ret hs ?_);conv=>whnf)|fail
 exact ⟨.low rfl⟩
theorem fDrive_ok (s : Sn) (hb : SnB s) (p m l : Int) (nl : Bool) (T : List (Int × Int)) (hT : T.length <= 1000) (ht : ∀ t ∈ T,-9223372036854775808 <= t.2 /\ t.2 <= 9223372036854775807) (h : sttE s p m l = 0) :
  Comp Tryz.prog 82 [snA s,xA p m l,.sl nl (T.map sgA)] (.tup [match (if zW s (stN p m l) = true then drvS s (lowB l.toNat) (stN p m l) T else none) with | some L=>.sl false ((stN p m l :: L).map staA) | none=>.sl true [],.int .i64 (if (if zW s (stN p m l) = true then drvS s (lowB l.toNat) (stN p m l) T else none) = none then 8 else 0)]):=by
 have hs:=js s hb p m l h
 obtain ⟨ok,h1,h2,h3,h4⟩:=yy.1 h
 have hal:=qF ok
 have hxe:=v9 h1.1 h2.1 (show 0 <= l by omega)
 have hx:=vL h
 have hll : (stN p m l).l = l.toNat:=rfl
 have hxl : (stN p m l).l <= allN s:=by show l.toNat <= allN s;omega
 have hl0 : l.toNat ≠ 0:=by omega
 have hl16 : l.toNat < 16:=by omega
 rw [<- hll] at hl0 hl16 ⊢
 rw [hxe] at hs ⊢
 generalize stN p m l = x at hs hx hl0 hl16 hxl
 clear h h1 h2 h3 h4 hxe hll
 have p2:=ok.p2;have l2:=ok.l2;have x1:=hx.p;have x2:=hx.m
 have hsf:=qV s ok x (by omega) (by omega) (by omega)
 have hlb:=zcL ⟨x.l,hl16⟩ hl0
 dsimp only at hlb
 have hb4:=lowB_lt x.l
 generalize lowB x.l = b at hlb hb4
 have hp2 : 2 ^ b <= 2 ^ 4:=Nat.pow_le_pow_right (by omega) (by omega)
 have e1 : ((T.map sgA).length : Int) = T.length:=by rw [List.length_map]
 cases hq : zW s x with
 | false =>
   rw [hq] at hsf
   rw [if_neg (by simp)]
   refine Comp.body (T:=tab) (res:=[.tmp 6,.tmp 7]) za [4,36] Tryz.func82 rfl (by kernel_rfl) Tryz.ntmps82 rfl (by simp only [List.length_cons,List.length_nil];decide) (by simp only [lowL,AV.low,snL,staL,zN];rfl) ?_;conv=>whnf
   repeat' first|((with_reducible first|apply XBr.ff|refine XBr.y2 fun h=>?_|refine XBr.n2 fun h=>?_|refine XBr.bne (fun h=>?_) fun h=>?_) <;> conv=>whnf) | with_reducible apply XBr.not|((first|refine zb.ret hs ?_|refine zb.ret hsf ?_);conv=>whnf)|fail
   exact ⟨.low rfl⟩
 | true =>
   rw [hq] at hsf
   rw [if_pos rfl]
   refine Comp.body (T:=tab) (res:=[.tmp 6,.tmp 7]) za [4,36] Tryz.func82 rfl (by kernel_rfl) Tryz.ntmps82 rfl (by simp only [List.length_cons,List.length_nil];decide) (by simp only [lowL,AV.low,snL,staL,zN];rfl) ?_;conv=>whnf
   repeat' first|((with_reducible first|apply XBr.tt|refine XBr.y2 fun h=>?_|refine XBr.n2 fun h=>?_|refine XBr.bne (fun h=>?_) fun h=>?_|refine XInt.a ?_) <;> conv=>whnf) | with_reducible apply XBr.not|((first|refine zh.a ?_|refine zb.ret hs ?_|refine zb.ret hsf ?_);conv=>whnf)|fail
   refine Walk.loopGK za [] [(4,_),(8,_),(10,_),(37,_),(38,_)] ⟨rfl,rfl,rfl,rfl,rfl,trivial⟩ (fun g : Nat × Sta × List Sta=>g.1 <= T.length /\ vld s g.2.1 /\ g.2.2.length <= g.1 /\ drvS s b x T = (drvS s b g.2.1 (T.drop g.1)).map (g.2.2 ++ ·)) (fun g=>[(6,.sl true []),(7,.int .i64 0),(11,.gr 2 (g.2.2.length + 1)),(39,natA g.1)]) (fun g=>[.cells (stC g.2.1),.cells [natA (2 ^ b)],.grow 30 false ((x :: g.2.2).map staA)]) (fun g=>T.length - g.1) (0,x,[]) ⟨Nat.zero_le _,⟨x1,x2,hxl⟩,Nat.zero_le _,by show drvS s b x T = (drvS s b x T).map _;cases drvS s b x T <;> rfl⟩ (by show [Blk.cells (stC x),Blk.cells [AV.int .i64 ((2 ^ b : Nat) : Int)],Blk.grow _ false ([x].map staA)] = _;rw [<- hlb.2];rfl) ⟨rfl,rfl,rfl,rfl,trivial⟩ ?_ (fun _ _=>(show (3 : Nat) <= 3 from Nat.le_refl 3)) ?_
   ·intro g _
    refine ⟨fun z hz=>?_,fun z hz=>?_⟩
    ·simp only [List.mem_cons,List.not_mem_nil,or_false] at hz
     rcases hz with rfl | rfl | rfl <;> first | rfl|exact yb _
    ·simp only [List.cons_append,List.nil_append,List.mem_cons,List.not_mem_nil,or_false] at hz
     rcases hz with rfl | rfl | rfl | rfl | rfl | rfl | rfl | rfl | rfl <;> first | rfl|exact zG s|exact zN _
   rintro ⟨k,y,R⟩ ⟨hk,hv,hR,hd⟩
   dsimp only at hk hv hR hd ⊢
   have hRl : ((x :: R).map staA).length = R.length + 1:=by rw [List.length_map,List.length_cons]
   conv=>whnf
   by_cases hlt : k < T.length
   ·have htk:=ht _ (zk (d:=default) hlt)
    have hyk : StOk s y:=⟨hv.1,hv.2.1,by have:=hv.2.2;omega⟩
    have hfa:=wq s ok y hyk (T.getD k default) htk.1 htk.2
    have hlen:=y8 s y (T.getD k default)
    have hvl:=fun y' (h : y' ∈ zm s y (T.getD k default))=>yf ok h
    rw [kj hlt,drvS] at hd
    generalize hA : zm s y (T.getD k default) = A at hfa hlen hvl hd
    have hix:=zcb A.isEmpty A 251 [.pim [natA (2 ^ b)]] (bitP b) rfl (by omega) fun y' hy'=>drive1_c b hb4 y' (by have:=(hvl y' hy').2.2;omega)
    rcases zcF (p:=bitP b) default A with ⟨hf,hi⟩ | ⟨i,hi1,hi2,hf⟩
    ·have hf' : A.find? (fun y=>y.l.testBit b) = none:=hf
     rw [hf'] at hd
     have hd2 : drvS s b x T = none:=hd
     rw [hd2]
     rw [hi] at hix
     repeat' first|((with_reducible first|refine XBr.y fun h=>?_|refine XBr.n fun h=>?_|refine XBr.dec (fun h=>?_) fun h=>?_) <;> conv=>whnf)|((first|refine XIx.a ?_|refine zb.ret hfa ?_|refine zb.lend hix (.cons (.low (yb _)) (.cons (Froz.fn (.cons (Froz.ptr rfl (one1 rfl) (.low rfl)) .nil)) .nil)) rfl ?_);conv=>whnf)|fail
     exact ⟨.low rfl⟩
    ·have hf' : A.find? (fun y=>y.l.testBit b) = some (A.getD i default):=hf
     rw [hf'] at hd
     rw [hi2] at hix
     have hy':=hvl _ (zk (d:=default) hi1)
     repeat' first|((with_reducible first|refine XBr.y fun h=>?_|refine XBr.n fun h=>?_|refine XBr.dec (fun h=>?_) fun h=>?_|refine XInt.a ?_) <;> conv=>whnf)|((first|refine zh.a ?_|refine XIx.a ?_|refine zb.ret hfa ?_|refine zb.lend hix (.cons (.low (yb _)) (.cons (Froz.fn (.cons (Froz.ptr rfl (one1 rfl) (.low rfl)) .nil)) .nil)) rfl ?_);conv=>whnf)|fail
     refine zl.go (k + 1,A.getD i default,R ++ [A.getD i default]) [.cells (sgA (T.getD k default)).cells] ⟨by dsimp only;omega,hy',by dsimp only;rw [List.length_append,List.length_cons,List.length_nil];omega,?_⟩ (by dsimp only;omega) ?_ ⟨rfl,rfl,rfl,rfl,rfl,rfl,rfl,(by show some (AV.gr 2 (R.length + 1 + 1)) = some (AV.gr 2 ((R ++ [A.getD i default]).length + 1));rw [List.length_append];rfl),rfl,trivial⟩
     ·show drvS s b x T = (drvS s b (A.getD i default) (T.drop (k + 1))).map ((R ++ [A.getD i default]) ++ ·)
      rw [hd]
      dsimp only
      cases drvS s b (A.getD i default) (T.drop (k + 1)) with
      | none=>rfl
      | some L=>show some (R ++ (A.getD i default :: L)) = some ((R ++ [A.getD i default]) ++ L);rw [List.append_assoc];rfl
     ·show [Blk.cells _,Blk.cells _,Blk.grow _ false ((x :: (R ++ [A.getD i default])).map staA)] ++ _ = _
      rw [<- List.cons_append,List.map_append];rfl
   obtain rfl : k = T.length:=by omega
   rw [List.drop_length] at hd
   have hd2 : drvS s b x T = some R:=by rw [hd];show some (R ++ []) = _;rw [List.append_nil]
   rw [hd2]
   repeat' ((with_reducible first|refine XBr.y fun h=>?_|refine XBr.n fun h=>?_|refine XBr.dec (fun h=>?_) fun h=>?_) <;> conv=>whnf)
   exact ⟨Froz.tup (.cons (Froz.grow rfl hRl (yb _)) (.cons (.low rfl) .nil))⟩
end GA
end
section
namespace GA
open Go Go.RowKit Go.Proofs
theorem zdb {s : Sn} (ok : SnOk s) {y : Sta} {t : Int × Int} {b : Nat} (hne : zm s y t ≠ []) (hb : y.l.testBit b = true) (hbt : b < s.truths.length) :
  ∃ z,(zm s y t).find? (bitP b) = some z /\ z.l.testBit b = true /\ ∀ u ∈ zm s y t,u.l.testBit b = true -> u = z:=by
 have he:=afterS_eq hne
 obtain ⟨u0,hu0⟩:=List.exists_mem_of_ne_nil _ hne
 obtain ⟨-,-,-,hw,-,-,-⟩:=jH hu0
 have hwy:=yn ok hw
 obtain ⟨n,hn,hl,hpm,hbit⟩:=parts_has ok (p:=t.1.toNat) (left:=y.l) (i:=b) (by omega) (by rw [ok.k1];exact hbt) hb
 have huniq : ∀ u ∈ zm s y t,u.l.testBit b = true -> u = ⟨t.1.toNat,(y.m + t.2).toNat,partN s t.1.toNat y.l n⟩:=fun u hu hub=>by
  rw [he,zb7] at hu
  obtain ⟨h1,h2,h3⟩:=hu
  obtain ⟨n',hn',hl',hne'⟩:=wB.1 h3
  have h4:=hub
  rw [hl',zav] at h4
  simp only [Bool.and_eq_true,beq_iff_eq,decide_eq_true_eq] at h4
  have h5 : n' = n:=by have:=h4.2.1;omega
  rw [h5] at hl'
  cases u;dsimp only at h1 h2 hl' ⊢;rw [h1,h2,hl']
 have hz : (⟨t.1.toNat,(y.m + t.2).toNat,partN s t.1.toNat y.l n⟩ : Sta) ∈ zm s y t:=by rw [he,zb7];exact ⟨rfl,rfl,hpm⟩
 cases hf : (zm s y t).find? (bitP b) with
 | none =>
   rw [List.find?_eq_none] at hf
   exact absurd hbit (hf _ hz)
 | some z =>
   have h1:=List.find?_some hf
   have h2:=List.mem_of_find?_eq_some hf
   have h3:=huniq z h2 h1
   exact ⟨z,rfl,h1,fun u hu hub=>by rw [huniq u hu hub,h3]⟩
theorem rDrive_no (s : Sn) (hb : SnB s) (p m l : Int) (nl : Bool) (T : List (Int × Int)) (h : sttE s p m l ≠ 0) : Comp Tryz.prog 83 [rsA s,xA p m l,.sl nl (T.map sgA)] (.tup [.sl true [],.int .i64 (sttE s p m l)]):=by
 have hs:=wc s hb p m l
 generalize sttE s p m l = e at h hs
 refine Comp.body (T:=tab) (res:=[.tmp 6,.tmp 7]) za [4,32] Tryz.func83 rfl (by kernel_rfl) Tryz.ntmps83 rfl (by simp only [List.length_cons,List.length_nil];decide) (by simp only [lowL,AV.low,rsL,xL,zN];rfl) ?_;conv=>whnf
 repeat' first|((with_reducible first|refine XBr.y2 fun h=>?_|refine XBr.n2 fun h=>?_|refine XBr.bne (fun h=>?_) fun h=>?_) <;> conv=>whnf)|((refine zb.ret hs ?_);conv=>whnf)|fail
 exact ⟨.low rfl⟩
def curS (b : Nat) (A : List Sta) (y : Sta) (j : Nat) : Sta:=((A.take j).find? (bitP b)).getD y
theorem rDrive_ok (s : Sn) (hb : SnB s) (p m l : Int) (nl : Bool) (T : List (Int × Int)) (hT : T.length <= 1000) (h : sttE s p m l = 0) :
  Comp Tryz.prog 83 [rsA s,xA p m l,.sl nl (T.map sgA)] (.tup [match (if zW s (stN p m l) = true then drvS s (lowB l.toNat) (stN p m l) T else none) with | some L=>.sl false ((stN p m l :: L).map staA) | none=>.sl true [],.int .i64 (if (if zW s (stN p m l) = true then drvS s (lowB l.toNat) (stN p m l) T else none) = none then 8 else 0)]):=by
 have hs:=wc s hb p m l
 rw [h] at hs
 obtain ⟨ok,h1,h2,h3,h4⟩:=yy.1 h
 have hal:=qF ok
 have hxe:=v9 h1.1 h2.1 (show 0 <= l by omega)
 have hx:=vL h
 have hll : (stN p m l).l = l.toNat:=rfl
 have hxl : (stN p m l).l <= allN s:=by show l.toNat <= allN s;omega
 have hl0 : l.toNat ≠ 0:=by omega
 have hl16 : l.toNat < 16:=by omega
 rw [<- hll] at hl0 hl16 ⊢
 rw [hxe] at hs ⊢
 generalize stN p m l = x at hs hx hl0 hl16 hxl
 clear h h1 h2 h3 h4 hxe hll
 have p2:=ok.p2;have l2:=ok.l2;have x1:=hx.p;have x2:=hx.m
 have hsf:=qk s hb ok x x1 hxl
 have hlb:=(zcL ⟨x.l,hl16⟩ hl0).1
 have hll2:=zds ⟨x.l,hl16⟩
 dsimp only at hlb hll2
 have hb4:=lowB_lt x.l
 have hbt : lowB x.l < s.truths.length:=by
  refine Classical.byContradiction fun e=>?_
  have h1 : x.l < 2 ^ lowB x.l:=by
   have h2 : 2 ^ s.truths.length <= 2 ^ lowB x.l:=Nat.pow_le_pow_right (by omega) (by omega)
   have h3 : 0 < 2 ^ s.truths.length:=Nat.two_pow_pos _
   unfold allN at hxl
   omega
  rw [Nat.testBit_lt_two_pow h1] at hlb;cases hlb
 generalize lowB x.l = b at hlb hll2 hb4 hbt
 have e1 : ((T.map sgA).length : Int) = T.length:=by rw [List.length_map]
 cases hq : zW s x with
 | false =>
   rw [hq] at hsf
   rw [if_neg (by simp)]
   refine Comp.body (T:=tab) (res:=[.tmp 6,.tmp 7]) za [4,32] Tryz.func83 rfl (by kernel_rfl) Tryz.ntmps83 rfl (by simp only [List.length_cons,List.length_nil];decide) (by simp only [lowL,AV.low,rsL,staL,zN];rfl) ?_;conv=>whnf
   repeat' first|((with_reducible first|apply XBr.ff|refine XBr.y2 fun h=>?_|refine XBr.n2 fun h=>?_|refine XBr.bne (fun h=>?_) fun h=>?_) <;> conv=>whnf) | with_reducible apply XBr.not|((first|refine zb.ret hs ?_|refine zb.ret hsf ?_);conv=>whnf)|fail
   exact ⟨.low rfl⟩
 | true =>
   rw [hq] at hsf
   rw [if_pos rfl]
   refine Comp.body (T:=tab) (res:=[.tmp 6,.tmp 7]) za [4,32] Tryz.func83 rfl (by kernel_rfl) Tryz.ntmps83 rfl (by simp only [List.length_cons,List.length_nil];decide) (by simp only [lowL,AV.low,rsL,staL,zN];rfl) ?_;conv=>whnf
   repeat' first|((with_reducible first|apply XBr.tt|refine XBr.y2 fun h=>?_|refine XBr.n2 fun h=>?_|refine XBr.bne (fun h=>?_) fun h=>?_) <;> conv=>whnf) | with_reducible apply XBr.not|((first|refine zb.ret hs ?_|refine zb.ret hsf ?_);conv=>whnf)|fail
   refine Walk.loopK za [] [(2,_),(3,_),(4,_),(6,_),(7,_)] ⟨rfl,rfl,rfl,rfl,rfl,trivial⟩ (fun k : Nat=>k <= b) (fun k=>[(9,natA k)]) (fun _=>[.cells (stC x)]) (fun k=>b - k) 0 (Nat.zero_le _) rfl ⟨rfl,trivial⟩ ?_
   intro k hk
   have his:=rIs_c x.l k (by omega) (by omega)
   conv=>whnf
   by_cases hkb : k < b
   ·rw [hll2 ⟨k,by omega⟩ hkb] at his
    repeat' first|((with_reducible first|apply XBr.ff|refine XInt.a ?_);conv=>whnf) | with_reducible apply XBr.not|((refine zb.ret his ?_);conv=>whnf)|fail
    exact zj.go (k + 1) (by omega) (by omega) rfl ⟨rfl,rfl,rfl,rfl,rfl,rfl,trivial⟩
   obtain rfl : k = b:=by omega
   rw [hlb] at his
   repeat' first|((with_reducible apply XBr.tt);conv=>whnf) | with_reducible apply XBr.not|((first|refine zh.a ?_|refine zb.ret his ?_);conv=>whnf)|fail
   refine Walk.loopK za [] [(2,_),(3,_),(4,_),(9,_)] ⟨rfl,rfl,rfl,rfl,trivial⟩ (fun g : Nat × Sta × List Sta=>g.1 <= T.length /\ vld s g.2.1 /\ g.2.1.l.testBit k = true /\ g.2.2.length <= g.1 /\ drvS s k x T = (drvS s k g.2.1 (T.drop g.1)).map (g.2.2 ++ ·)) (fun g=>[(6,.sl true []),(7,.int .i64 0),(10,.gr 1 (g.2.2.length + 1)),(11,natA g.1)]) (fun g=>[.cells (stC g.2.1),.grow 167 false ((x :: g.2.2).map staA)]) (fun g=>T.length - g.1) (0,x,[]) ⟨Nat.zero_le _,⟨x1,x2,hxl⟩,hlb,Nat.zero_le _,by show drvS s k x T = (drvS s k x T).map _;cases drvS s k x T <;> rfl⟩ rfl ⟨rfl,rfl,rfl,rfl,trivial⟩ ?_
   rintro ⟨i,y,R⟩ ⟨hi,hv,hyb,hR,hd⟩
   dsimp only at hi hv hyb hR hd ⊢
   have hRl : ((x :: R).map staA).length = R.length + 1:=by rw [List.length_map,List.length_cons]
   conv=>whnf
   by_cases hlt : i < T.length
   ·have hyk : StOk s y:=⟨hv.1,hv.2.1,by have:=hv.2.2;omega⟩
    have hfa:=vZ s hb ok y hyk hv.2.2 (T.getD i default)
    have hlen:=y8 s y (T.getD i default)
    have hvl:=fun y' (h : y' ∈ zm s y (T.getD i default))=>yf ok h
    have haf:=zdb ok (y:=y) (t:=T.getD i default) (b:=k)
    rw [kj hlt,drvS] at hd
    generalize hA : zm s y (T.getD i default) = A at hfa hlen hvl hd haf
    cases A with
    | nil =>
      have hd2 : drvS s k x T = none:=hd
      rw [hd2]
      have e0 : (([] : List AV).length : Int) = 0:=rfl
      have hfa' : Comp Tryz.prog 76 [rsA s,staA y,sgA (T.getD i default)] (.sl true []):=hfa
      repeat' first|((with_reducible first|refine XBr.y fun h=>?_|refine XBr.n fun h=>?_|refine XBr.dec (fun h=>?_) fun h=>?_|refine XBr.y1 fun h=>?_|refine XBr.n1 fun h=>?_|refine XBr.beq (fun h=>?_) fun h=>?_|apply Chk.go|apply ChkA.go|apply ChkF.go|apply ChkB.go|apply zq.mk) <;> conv=>whnf)|(refine XIx.a ?_;conv=>whnf)|(with_reducible first|apply XAnd.mk|exact trivial)|(exact zg.mk rfl rfl)|(apply Walk.drawN (id:=13) za zd [4,32] [] (hsU _) [_,_,_,_,_,_,_,_] (by kernel_rfl) rfl)|((refine zb.ret hfa' ?_);conv=>whnf)|fail
      exact ⟨.low rfl⟩
    | cons a0 A0 =>
      obtain ⟨z,hz1,hz2,hz3⟩:=haf (List.cons_ne_nil _ _) hyb hbt
      have hz1' : (a0 :: A0).find? (fun y=>y.l.testBit k) = some z:=hz1
      rw [hz1'] at hd
      have hzm:=List.mem_of_find?_eq_some hz1
      have hzv:=hvl z hzm
      have hcur0 : curS k (a0 :: A0) y 0 = y:=rfl
      have hcurE : curS k (a0 :: A0) y (a0 :: A0).length = z:=by unfold curS;rw [List.take_length,hz1];rfl
      have hfa' : Comp Tryz.prog 76 [rsA s,staA y,sgA (T.getD i default)] (.sl false ((a0 :: A0).map staA)):=hfa
      have eA : (((a0 :: A0).map staA).length : Int) = (a0 :: A0).length:=by rw [List.length_map]
      have eA0 : 1 <= (a0 :: A0).length:=by rw [List.length_cons];omega
      generalize a0 :: A0 = A at hlen hvl hz1 hz3 hzm hcur0 hcurE hfa' eA eA0
      repeat' first|((with_reducible first|refine XBr.y fun h=>?_|refine XBr.n fun h=>?_|refine XBr.dec (fun h=>?_) fun h=>?_|refine XBr.y1 fun h=>?_|refine XBr.n1 fun h=>?_|refine XBr.beq (fun h=>?_) fun h=>?_|apply Chk.go|apply ChkA.go|apply ChkF.go|apply ChkB.go|apply zq.mk) <;> conv=>whnf)|(refine XIx.a ?_;conv=>whnf)|(with_reducible first|apply XAnd.mk|exact trivial)|(exact zg.mk rfl rfl)|(apply Walk.drawN (id:=13) za zd [4,32] [] (hsU _) [_,_,_,_,_,_,_,_] (by kernel_rfl) rfl)|((refine zb.ret hfa' ?_);conv=>whnf)|fail
      refine Walk.loopK za [] [(2,_),(3,_),(4,_),(6,_),(7,_),(9,_),(10,_),(11,_),(12,_)] ⟨rfl,rfl,rfl,rfl,rfl,rfl,rfl,rfl,rfl,trivial⟩ (fun j : Nat=>j <= A.length) (fun j=>[(13,natA j)]) (fun j=>[.cells (stC (curS k A y j)),.grow 167 false ((x :: R).map staA)]) (fun j=>A.length - j) 0 (Nat.zero_le _) (by rw [hcur0];rfl) ⟨rfl,trivial⟩ ?_
      intro j hj
      conv=>whnf
      by_cases hlt2 : j < A.length
      ·have hmem : A.getD j default ∈ A:=zk hlt2
       have hisj:=rIs_c (A.getD j default).l k (by have:=(hvl _ hmem).2.2;omega) (by omega)
       have hnx : curS k A y (j + 1) = if (A.getD j default).l.testBit k = true then A.getD j default else curS k A y j:=by
        unfold curS
        rw [zD hlt2,List.find?_append]
        by_cases hbj : (A.getD j default).l.testBit k = true
        ·rw [if_pos hbj]
         cases hf : (A.take j).find? (bitP k) with
         | none =>
           rw [Option.none_or,List.find?_cons]
           rw [show bitP k (A.getD j default) = true from hbj];rfl
         | some u =>
           have hu:=hz3 u (List.mem_of_mem_take (List.mem_of_find?_eq_some hf)) (show bitP k u = true from List.find?_some hf)
           have hw:=hz3 _ hmem hbj
           show u = _
           rw [hu,hw]
        ·rw [if_neg hbj]
         have : [A.getD j default].find? (bitP k) = none:=by
          rw [List.find?_cons,show bitP k (A.getD j default) = false from Bool.eq_false_iff.2 hbj];rfl
         rw [this,Option.or_none]
       cases hbj : (A.getD j default).l.testBit k with
       | true =>
         rw [hbj] at hisj
         rw [if_pos hbj] at hnx
         repeat' first|((with_reducible first|apply XBr.tt|refine XBr.y fun h=>?_|refine XBr.n fun h=>?_|refine XBr.dec (fun h=>?_) fun h=>?_|refine XInt.a ?_) <;> conv=>whnf)|((first|refine XIx.a ?_|refine zb.ret hisj ?_);conv=>whnf)|fail
         exact zj.go (j + 1) (by omega) (by omega) (by rw [hnx];rfl) ⟨rfl,rfl,rfl,rfl,rfl,rfl,rfl,rfl,rfl,rfl,trivial⟩
       | false =>
         rw [hbj] at hisj
         rw [if_neg (by rw [hbj];simp)] at hnx
         repeat' first|((with_reducible first|apply XBr.ff|refine XBr.y fun h=>?_|refine XBr.n fun h=>?_|refine XBr.dec (fun h=>?_) fun h=>?_|refine XInt.a ?_) <;> conv=>whnf)|((first|refine XIx.a ?_|refine zb.ret hisj ?_);conv=>whnf)|fail
         exact zj.go (j + 1) (by omega) (by omega) (by rw [hnx]) ⟨rfl,rfl,rfl,rfl,rfl,rfl,rfl,rfl,rfl,rfl,trivial⟩
      obtain rfl : j = A.length:=by omega
      rw [hcurE]
      repeat' first|((with_reducible first|refine XBr.y fun h=>?_|refine XBr.n fun h=>?_|refine XBr.dec (fun h=>?_) fun h=>?_|refine XInt.a ?_) <;> conv=>whnf)|(refine zh.a ?_;conv=>whnf)|fail
      refine zj.go (i + 1,z,R ++ [z]) ⟨by dsimp only;omega,hzv,hz2,by dsimp only;rw [List.length_append,List.length_cons,List.length_nil];omega,?_⟩ (by dsimp only;omega) ?_ ⟨rfl,rfl,rfl,rfl,rfl,rfl,(by show some (AV.gr 1 (R.length + 1 + 1)) = some (AV.gr 1 ((R ++ [z]).length + 1));rw [List.length_append];rfl),rfl,trivial⟩
      ·show drvS s k x T = (drvS s k z (T.drop (i + 1))).map ((R ++ [z]) ++ ·)
       rw [hd]
       dsimp only
       cases drvS s k z (T.drop (i + 1)) with
       | none=>rfl
       | some L=>show some (R ++ (z :: L)) = some ((R ++ [z]) ++ L);rw [List.append_assoc];rfl
      ·show [Blk.cells _,Blk.grow _ false ((x :: (R ++ [z])).map staA)] = _
       rw [<- List.cons_append,List.map_append];rfl
   obtain rfl : i = T.length:=by omega
   rw [List.drop_length] at hd
   have hd2 : drvS s k x T = some R:=by rw [hd];show some (R ++ []) = _;rw [List.append_nil]
   rw [hd2]
   repeat' ((with_reducible first|refine XBr.y fun h=>?_|refine XBr.n fun h=>?_|refine XBr.dec (fun h=>?_) fun h=>?_) <;> conv=>whnf)
   exact ⟨Froz.tup (.cons (Froz.grow rfl hRl (yb _)) (.cons (.low rfl) .nil))⟩
end GA
end
section
namespace GA
open Go Go.RowKit Go.Proofs
theorem XPut.tvs {W : Nat} {F : Nat -> Bool} {n e : Nat} {v : AV} {k : List AV -> Prop} (b : Bool) (hv : v = .bool b) (hn : n = W) (he : e < W) (h : k (GA.tvs W (updV F e b))) : XPut (GA.tvs W F) n e v k:=by
 subst hv
 refine ⟨by rw [zE];exact hn,by omega,?_⟩
 unfold GA.tvs at h ⊢
 rw [<- List.map_set,yA];exact h
theorem XGet.tvs {W : Nat} {F : Nat -> Bool} {n e : Nat} {k : List AV -> Prop} (hn : n = W) (he : e < W) (h : k [.bool (F e)]) : XGet (GA.tvs W F) n e k:=by
 refine ⟨by rw [zE];exact hn,by omega,?_⟩
 have : (GA.tvs W F).getD e default = .bool (F e):=by
  rw [List.getD_eq_getElem?_getD,show (GA.tvs W F)[e]? = some (.bool (F e)) from fL he];rfl
 rw [this];exact h
theorem jr {W : Nat} {F G : Nat -> Bool} (h : ∀ i,i < W -> F i = G i) : tvs W F = tvs W G:=by unfold tvs;rw [zB h]
theorem bsum_and (f g : Nat -> Bool) (n : Nat) : bsum f n &&& bsum g n = bsum (fun t=>f t && g t) n:=by
 refine vk fun i=>?_
 rw [Nat.testBit_and,y5,y5,y5]
 by_cases h : i < n <;> simp [h]
def mixF (F G : Nat -> Bool) (k : Nat) : Nat -> Bool:=fun t=>if t < k then G t else F t
theorem wk (F G : Nat -> Bool) (k : Nat) : updV (mixF F G k) k (G k) = mixF F G (k + 1):=by
 funext t
 unfold updV mixF
 by_cases h : t = k
 ·rw [if_pos h,if_pos (by omega),h]
 ·rw [if_neg h]
  by_cases h2 : t < k
  ·rw [if_pos h2,if_pos (by omega)]
  ·rw [if_neg h2,if_neg (by omega)]
theorem gH (F G : Nat -> Bool) (k : Nat) : mixF F G k k = F k:=if_neg (by omega)
theorem wQ {F G : Nat -> Bool} {k : Nat} : tvs k (mixF F G k) = tvs k G:=jr fun i hi=>if_pos hi
theorem rFixed_no (s : Sn) (hb : SnB s) (m : Int) (nl : Bool) (l : List (Int × Int)) (h : snE s ≠ 0 \/ inZ m 0 s.last = false) : Comp Tryz.prog 85 [rsA s,.int .i64 m,.sl nl (l.map sgA)] (.tup [.int .i64 0,.int .i64 0,.int .i64 (fixE s m l)]):=by
 have hck:=jJ s hb
 by_cases h0 : snE s = 0
 ·have h1 : inZ m 0 s.last = false:=by rcases h with h | h;exact absurd h0 h;exact h
  have he : fixE s m l = 3:=by unfold fixE;rw [if_neg (fun e=>e h0),if_pos h1]
  rw [he]
  rw [h0] at hck
  refine Comp.body (T:=tab) (res:=[.tmp 6,.tmp 7,.tmp 8]) za [] Tryz.func85 rfl (by kernel_rfl) Tryz.ntmps85 rfl (by simp only [List.length_cons,List.length_nil];decide) (by simp only [lowL,AV.low,rsL,zN];rfl) ?_;conv=>whnf
  repeat' first|((with_reducible first|apply XBr.ff|refine XBr.y2 fun h=>?_|refine XBr.n2 fun h=>?_|refine XBr.bne (fun h=>?_) fun h=>?_) <;> conv=>whnf) | with_reducible apply XBr.not|((first|(refine zb.ret hck ?_)|((refine zb.ret (zX _ _ _) ?_);rw [h1]));conv=>whnf)|fail
  exact ⟨.low rfl⟩
 ·have he : fixE s m l = snE s:=by unfold fixE;rw [if_pos h0]
  rw [he]
  generalize snE s = e at h0 hck
  refine Comp.body (T:=tab) (res:=[.tmp 6,.tmp 7,.tmp 8]) za [] Tryz.func85 rfl (by kernel_rfl) Tryz.ntmps85 rfl (by simp only [List.length_cons,List.length_nil];decide) (by simp only [lowL,AV.low,rsL,zN];rfl) ?_;conv=>whnf
  repeat' first|((with_reducible first|refine XBr.y2 fun h=>?_|refine XBr.n2 fun h=>?_|refine XBr.bne (fun h=>?_) fun h=>?_) <;> conv=>whnf)|((refine zb.ret hck ?_);conv=>whnf)|fail
  exact ⟨.low rfl⟩
set_option maxHeartbeats 4000000 in
theorem rFixed_ok (s : Sn) (hb : SnB s) (ok : SnOk s) (m0 : Nat) (hm0 : (m0 : Int) <= s.last) (nl : Bool) (l : List (Int × Int)) (hl : l.length <= 100000) : Comp Tryz.prog 85 [rsA s,natA m0,.sl nl (l.map sgA)] (.tup [natA (fixR s m0 l).1,natA (fixR s m0 l).2,.int .i64 (if fixS s s.home.toNat m0 (drN s s.home.toNat m0) 0 l = none then 8 else 0)]):=by
 have p1:=ok.p1;have p2:=ok.p2;have t1:=ok.t1;have t2:=ok.t2;have l1:=ok.l1;have l2:=ok.l2;have w1:=ok.w1;have h1:=ok.h1
 have hck:=jJ s hb
 rw [zO.2 ok] at hck
 have hmn : inZ (m0 : Int) 0 s.last = true:=zr.2 ⟨by omega,hm0⟩
 have e1 : ((l.map sgA).length : Int) = l.length:=by rw [List.length_map]
 have e3 : ((s.truths.map tdA).length : Int) = s.truths.length:=by rw [List.length_map]
 obtain ⟨h0,hh0⟩ : ∃ h0 : Nat,s.home = h0:=⟨s.home.toNat,by omega⟩
 have hfr : fixR s m0 l = match fixS s h0 m0 (drN s h0 m0) 0 l with | some (p,_,a,w)=>(if (p : Int) = s.home then a else 0,w) | none=>(0,0):=by unfold fixR;rw [hh0,Int.toNat_natCast,Int.toNat_natCast];rfl
 rw [show s.home.toNat = h0 by omega]
 have hwet:=fun (t p m : Nat) (ht : t < s.truths.length) (hp : (p : Int) < s.places)=>rWet_c s hb t p m ht (by have:=ok.tl _ (zk (d:=default) ht);omega)
 refine Comp.body (T:=tab) (res:=[.tmp 6,.tmp 7,.tmp 8]) za [] Tryz.func85 rfl (by kernel_rfl) Tryz.ntmps85 rfl (by simp only [List.length_cons,List.length_nil];decide) (by simp only [lowL,AV.low,rsL,zN];rfl) ?_;conv=>whnf
 repeat' first|((with_reducible first|apply XBr.tt|refine XBr.y2 fun h=>?_|refine XBr.n2 fun h=>?_|refine XBr.bne (fun h=>?_) fun h=>?_) <;> conv=>whnf) | with_reducible apply XBr.not|((first|(first|refine zh.a ?_|refine zb.ret hck ?_)|((refine zb.ret (zX _ _ _) ?_);rw [hmn]));conv=>whnf)|fail
 obtain ⟨T0,hT0⟩ : ∃ T0,s.truths.length = T0:=⟨_,rfl⟩
 have hTn : ((s.truths.map tdA).length : Int).toNat = T0:=by rw [e3,hT0,Int.toNat_natCast]
 refine Walk.loopK za [] [(1,_),(2,_),(3,_),(6,_),(7,_),(8,_),(10,natA h0),(11,_),(12,.gr 0 T0)] ⟨rfl,rfl,rfl,rfl,rfl,rfl,(congrArg (fun z=>some (AV.int .i64 z)) hh0),rfl,(congrArg (fun n=>some (AV.gr 0 n)) hTn),trivial⟩ (fun k : Nat=>k <= T0) (fun k=>[(13,natA k)]) (fun k=>[.grow 4 false (tvs T0 (mixF (fun _=>false) (fun t=>dryT s t h0 m0) k))]) (fun k=>T0 - k) 0 (Nat.zero_le _) ?_ ⟨rfl,trivial⟩ ?_
 ·show [Blk.grow _ false (tvs T0 (mixF (fun _=>false) (fun t=>dryT s t h0 m0) 0))] = _
  have hz : tvs T0 (mixF (fun _=>false) (fun t=>dryT s t h0 m0) 0) = List.replicate ((s.truths.map tdA).length : Int).toNat (AV.bool false):=by
   rw [e3,hT0,Int.toNat_natCast,tvs0]
   exact jr fun i _=>if_neg (by omega)
  rw [hz]
 intro k hk
 conv=>whnf
 by_cases hlt : k < T0
 ·have hw:=hwet k h0 m0 (by omega) (by omega)
  have hnx:=wk (fun _=>false) (fun t=>dryT s t h0 m0) k
  repeat' first|((with_reducible first|refine XBr.y fun h=>?_|refine XBr.n fun h=>?_|refine XBr.dec (fun h=>?_) fun h=>?_|refine XInt.a ?_) <;> conv=>whnf)|((first|(first|refine zb.ret hw ?_|(first|refine zh.mk (zE _ _) ?_|refine zh.mk ⟨zE _ _,rfl,by omega,by omega⟩ ?_))|((refine XPut.tvs (dryT s k h0 m0) (by simp) (by omega) (by omega) ?_);rw [show ((k : Int)).toNat = k from rfl,hnx]));conv=>whnf)|fail
  exact zj.go (k + 1) (by omega) (by omega) rfl ⟨rfl,rfl,rfl,rfl,rfl,rfl,rfl,rfl,rfl,rfl,trivial⟩
 obtain rfl : k = T0:=by omega
 rw [wQ]
 repeat' first|((with_reducible first|refine XBr.y fun h=>?_|refine XBr.n fun h=>?_|refine XBr.dec (fun h=>?_) fun h=>?_) <;> conv=>whnf)|((first|refine zh.mk (zE _ _) ?_|refine zh.mk ⟨zE _ _,rfl,by omega,by omega⟩ ?_);conv=>whnf)|fail
 refine Walk.loopK za [] [(2,_),(3,_),(12,_)] ⟨rfl,rfl,rfl,trivial⟩ (fun g : Nat × Nat × Nat × (Nat -> Bool) × Nat=>g.1 <= l.length /\ (g.2.1 : Int) < s.places /\ (g.2.2.1 : Int) <= s.last /\ g.2.2.2.2 <= g.1 /\ fixS s h0 m0 (drN s h0 m0) 0 l = fixS s g.2.1 g.2.2.1 (bsum g.2.2.2.1 k) g.2.2.2.2 (l.drop g.1)) (fun g=>[(1,natA g.2.2.1),(6,.int .i64 0),(7,.int .i64 0),(8,.int .i64 0),(10,natA g.2.1),(11,natA g.2.2.2.2),(14,natA g.1)]) (fun g=>[.grow 4 false (tvs k g.2.2.2.1)]) (fun g=>l.length - g.1) (0,h0,m0,(fun t=>dryT s t h0 m0),0) ⟨Nat.zero_le _,by dsimp only;omega,hm0,Nat.le_refl _,by dsimp only;unfold drN;rw [hT0];rfl⟩ rfl ⟨rfl,rfl,rfl,rfl,rfl,rfl,rfl,trivial⟩ ?_
 rintro ⟨i,p,m,F,w⟩ ⟨hi,hp,hm,hw,hs⟩
 dsimp only at hi hp hm hw hs ⊢
 conv=>whnf
 by_cases hlt : i < l.length
 ·rw [kj hlt,fixS] at hs
  have hre:=rReal_c s hb p (l.getD i default)
  rw [<- zaA ok hp] at hre
  cases hc : (waysL s p).contains (l.getD i default) with
  | false =>
    rw [hc] at hre hs
    rw [if_neg (by simp)] at hs
    repeat' first|((with_reducible first|apply XBr.tt|apply XBr.ff|refine XBr.y fun h=>?_|refine XBr.n fun h=>?_|refine XBr.dec (fun h=>?_) fun h=>?_|apply Chk.go|apply ChkA.go|apply ChkF.go|apply ChkB.go|apply zq.mk) <;> conv=>whnf)|(refine XIx.a ?_;conv=>whnf)|(with_reducible first|apply XBr.not|apply XAnd.mk|exact trivial)|(exact zg.mk rfl rfl)|(apply Walk.drawN (id:=15) za zd [] [] (hsU _) [_,_,_,_,_,_,_,_,_,_,_,_,_,_,_,_,_,_,_,_] (by kernel_rfl) rfl)|((refine zb.ret hre ?_);conv=>whnf)|fail
    rw [hfr,hs]
    exact ⟨.low rfl⟩
  | true =>
    rw [hc] at hre hs
    have hwy:=yn ok (List.contains_iff_mem.1 hc)
    by_cases hle : (m : Int) + (l.getD i default).2 <= s.last
    ·rw [if_pos ⟨rfl,hle⟩] at hs
     obtain ⟨q,hq⟩ : ∃ q : Nat,(l.getD i default).1 = q:=⟨(l.getD i default).1.toNat,by omega⟩
     obtain ⟨m',hm'⟩ : ∃ m' : Nat,(m : Int) + (l.getD i default).2 = m':=⟨((m : Int) + (l.getD i default).2).toNat,by omega⟩
     rw [hm',Int.toNat_natCast,hq,Int.toNat_natCast] at hs
     have hand : bsum F k &&& drN s q m' = bsum (fun t=>F t && dryT s t q m') k:=by unfold drN;rw [hT0];exact bsum_and _ _ _
     rw [hand] at hs
     by_cases c1 : (p : Int) = s.bed
     ·by_cases c2 : (l.getD i default).1 = (p : Int)
      ·rw [if_pos ⟨c1,by omega⟩] at hs
       repeat' first|((with_reducible first|apply XBr.tt|refine XBr.y fun h=>?_|refine XBr.n fun h=>?_|refine XBr.dec (fun h=>?_) fun h=>?_|refine XBr.y1 fun h=>?_|refine XBr.n1 fun h=>?_|refine XBr.beq (fun h=>?_) fun h=>?_|refine XInt.a ?_|apply Chk.go|apply ChkA.go|apply ChkF.go|apply ChkB.go|apply zq.mk) <;> conv=>whnf)|(refine XIx.a ?_;conv=>whnf)|(with_reducible first|apply XBr.not|apply XAnd.mk|exact trivial)|(exact zg.mk rfl rfl)|(apply Walk.drawN (id:=15) za zd [] [] (hsU _) [_,_,_,_,_,_,_,_,_,_,_,_,_,_,_,_,_,_,_,_] (by kernel_rfl) rfl)|(apply Walk.drawN (id:=19) za zd [] [] (hsU _) [_,_,_,_,_,_,_,_,_,_,_,_,_,_] (by kernel_rfl) rfl)|((refine zb.ret hre ?_);conv=>whnf)|fail
       refine Walk.loopK za [] [(1,natA m'),(2,_),(3,_),(6,_),(7,_),(8,_),(10,natA q),(11,_),(12,_),(14,_)] ⟨congrArg (fun z=>some (AV.int .i64 z)) hm',rfl,rfl,rfl,rfl,rfl,congrArg (fun z=>some (AV.int .i64 z)) hq,rfl,rfl,rfl,trivial⟩ (fun j : Nat=>j <= k) (fun j=>[(15,natA j)]) (fun j=>[.grow 4 false (tvs k (mixF F (fun t=>F t && dryT s t q m') j))]) (fun j=>k - j) 0 (Nat.zero_le _) (by show [Blk.grow _ false (tvs k (mixF F (fun t=>F t && dryT s t q m') 0))] = _;rw [show tvs k (mixF F (fun t=>F t && dryT s t q m') 0) = tvs k F from jr fun i _=>if_neg (by omega)];rfl) ⟨rfl,trivial⟩ ?_
       intro j hj
       conv=>whnf
       by_cases hlt2 : j < k
       ·have hwt:=hwet j q m' (by omega) (by omega)
        have hnx:=wk F (fun t=>F t && dryT s t q m') j
        have hat:=gH F (fun t=>F t && dryT s t q m') j
        cases hF : F j with
        | false =>
          rw [hF] at hat
          rw [hF,Bool.false_and] at hnx
          repeat' first|((with_reducible first|apply XBr.ff|refine XBr.y fun h=>?_|refine XBr.n fun h=>?_|refine XBr.dec (fun h=>?_) fun h=>?_|refine XInt.a ?_) <;> conv=>whnf)|((first|(first|refine zh.mk (zE _ _) ?_|refine zh.mk ⟨zE _ _,rfl,by omega,by omega⟩ ?_)|((refine XGet.tvs rfl (by omega) ?_);rw [show ((j : Int)).toNat = j from rfl,hat])|((refine XPut.tvs false rfl rfl (by omega) ?_);rw [show ((j : Int)).toNat = j from rfl,hnx]));conv=>whnf)|fail
          exact zj.go (j + 1) (by omega) (by omega) rfl ⟨rfl,rfl,rfl,rfl,rfl,rfl,rfl,rfl,rfl,rfl,rfl,trivial⟩
        | true =>
          rw [hF] at hat
          rw [hF,Bool.true_and] at hnx
          repeat' first|((with_reducible first|apply XBr.tt|refine XBr.y fun h=>?_|refine XBr.n fun h=>?_|refine XBr.dec (fun h=>?_) fun h=>?_|refine XInt.a ?_) <;> conv=>whnf)|((first|(first|refine zh.mk (zE _ _) ?_|refine zh.mk ⟨zE _ _,rfl,by omega,by omega⟩ ?_)|((refine XGet.tvs rfl (by omega) ?_);rw [show ((j : Int)).toNat = j from rfl,hat])|(refine zb.ret hwt ?_)|((refine XPut.tvs (dryT s j q m') (by simp) rfl (by omega) ?_);rw [show ((j : Int)).toNat = j from rfl,hnx]));conv=>whnf)|fail
          exact zj.go (j + 1) (by omega) (by omega) rfl ⟨rfl,rfl,rfl,rfl,rfl,rfl,rfl,rfl,rfl,rfl,rfl,trivial⟩
       obtain rfl : j = k:=by omega
       rw [wQ]
       repeat' first|((with_reducible first|refine XBr.y fun h=>?_|refine XBr.n fun h=>?_|refine XBr.dec (fun h=>?_) fun h=>?_|refine XInt.a ?_) <;> conv=>whnf)|((first|refine zh.mk (zE _ _) ?_|refine zh.mk ⟨zE _ _,rfl,by omega,by omega⟩ ?_);conv=>whnf)|fail
       exact zj.go (i + 1,q,m',(fun t=>F t && dryT s t q m'),w + 1) ⟨by dsimp only;omega,by dsimp only;omega,by dsimp only;omega,by dsimp only;omega,hs⟩ (by dsimp only;omega) rfl ⟨rfl,rfl,rfl,rfl,rfl,rfl,rfl,rfl,rfl,rfl,trivial⟩
      ·rw [if_neg (fun h=>c2 (by omega))] at hs
       repeat' first|((with_reducible first|apply XBr.tt|apply XBr.ff|refine XBr.y fun h=>?_|refine XBr.n fun h=>?_|refine XBr.dec (fun h=>?_) fun h=>?_|refine XBr.y1 fun h=>?_|refine XBr.n1 fun h=>?_|refine XBr.beq (fun h=>?_) fun h=>?_|refine XInt.a ?_|apply Chk.go|apply ChkA.go|apply ChkF.go|apply ChkB.go|apply zq.mk) <;> conv=>whnf)|(refine XIx.a ?_;conv=>whnf)|(with_reducible first|apply XBr.not|apply XAnd.mk|exact trivial)|(exact zg.mk rfl rfl)|(apply Walk.drawN (id:=15) za zd [] [] (hsU _) [_,_,_,_,_,_,_,_,_,_,_,_,_,_,_,_,_,_,_,_] (by kernel_rfl) rfl)|(apply Walk.drawN (id:=19) za zd [] [] (hsU _) [_,_,_,_,_,_,_,_,_,_,_,_,_,_] (by kernel_rfl) rfl)|((refine zb.ret hre ?_);conv=>whnf)|fail
       refine Walk.loopK za [] [(1,natA m'),(2,_),(3,_),(6,_),(7,_),(8,_),(10,natA q),(11,_),(12,_),(14,_)] ⟨congrArg (fun z=>some (AV.int .i64 z)) hm',rfl,rfl,rfl,rfl,rfl,congrArg (fun z=>some (AV.int .i64 z)) hq,rfl,rfl,rfl,trivial⟩ (fun j : Nat=>j <= k) (fun j=>[(15,natA j)]) (fun j=>[.grow 4 false (tvs k (mixF F (fun t=>F t && dryT s t q m') j))]) (fun j=>k - j) 0 (Nat.zero_le _) (by show [Blk.grow _ false (tvs k (mixF F (fun t=>F t && dryT s t q m') 0))] = _;rw [show tvs k (mixF F (fun t=>F t && dryT s t q m') 0) = tvs k F from jr fun i _=>if_neg (by omega)];rfl) ⟨rfl,trivial⟩ ?_
       intro j hj
       conv=>whnf
       by_cases hlt2 : j < k
       ·have hwt:=hwet j q m' (by omega) (by omega)
        have hnx:=wk F (fun t=>F t && dryT s t q m') j
        have hat:=gH F (fun t=>F t && dryT s t q m') j
        cases hF : F j with
        | false =>
          rw [hF] at hat
          rw [hF,Bool.false_and] at hnx
          repeat' first|((with_reducible first|apply XBr.ff|refine XBr.y fun h=>?_|refine XBr.n fun h=>?_|refine XBr.dec (fun h=>?_) fun h=>?_|refine XInt.a ?_) <;> conv=>whnf)|((first|(first|refine zh.mk (zE _ _) ?_|refine zh.mk ⟨zE _ _,rfl,by omega,by omega⟩ ?_)|((refine XGet.tvs rfl (by omega) ?_);rw [show ((j : Int)).toNat = j from rfl,hat])|((refine XPut.tvs false rfl rfl (by omega) ?_);rw [show ((j : Int)).toNat = j from rfl,hnx]));conv=>whnf)|fail
          exact zj.go (j + 1) (by omega) (by omega) rfl ⟨rfl,rfl,rfl,rfl,rfl,rfl,rfl,rfl,rfl,rfl,rfl,trivial⟩
        | true =>
          rw [hF] at hat
          rw [hF,Bool.true_and] at hnx
          repeat' first|((with_reducible first|apply XBr.tt|refine XBr.y fun h=>?_|refine XBr.n fun h=>?_|refine XBr.dec (fun h=>?_) fun h=>?_|refine XInt.a ?_) <;> conv=>whnf)|((first|(first|refine zh.mk (zE _ _) ?_|refine zh.mk ⟨zE _ _,rfl,by omega,by omega⟩ ?_)|((refine XGet.tvs rfl (by omega) ?_);rw [show ((j : Int)).toNat = j from rfl,hat])|(refine zb.ret hwt ?_)|((refine XPut.tvs (dryT s j q m') (by simp) rfl (by omega) ?_);rw [show ((j : Int)).toNat = j from rfl,hnx]));conv=>whnf)|fail
          exact zj.go (j + 1) (by omega) (by omega) rfl ⟨rfl,rfl,rfl,rfl,rfl,rfl,rfl,rfl,rfl,rfl,rfl,trivial⟩
       obtain rfl : j = k:=by omega
       rw [wQ]
       repeat' first|((with_reducible first|refine XBr.y fun h=>?_|refine XBr.n fun h=>?_|refine XBr.dec (fun h=>?_) fun h=>?_|refine XInt.a ?_) <;> conv=>whnf)|((first|refine zh.mk (zE _ _) ?_|refine zh.mk ⟨zE _ _,rfl,by omega,by omega⟩ ?_);conv=>whnf)|fail
       exact zj.go (i + 1,q,m',(fun t=>F t && dryT s t q m'),w) ⟨by dsimp only;omega,by dsimp only;omega,by dsimp only;omega,by dsimp only;omega,hs⟩ (by dsimp only;omega) rfl ⟨rfl,rfl,rfl,rfl,rfl,rfl,rfl,rfl,rfl,rfl,trivial⟩
     ·by_cases c2 : (l.getD i default).1 = (p : Int)
      ·rw [if_neg (fun h=>c1 h.1)] at hs
       repeat' first|((with_reducible first|apply XBr.tt|refine XBr.y fun h=>?_|refine XBr.n fun h=>?_|refine XBr.dec (fun h=>?_) fun h=>?_|refine XBr.y1 fun h=>?_|refine XBr.n1 fun h=>?_|refine XBr.beq (fun h=>?_) fun h=>?_|refine XInt.a ?_|apply Chk.go|apply ChkA.go|apply ChkF.go|apply ChkB.go|apply zq.mk) <;> conv=>whnf)|(refine XIx.a ?_;conv=>whnf)|(with_reducible first|apply XBr.not|apply XAnd.mk|exact trivial)|(exact zg.mk rfl rfl)|(apply Walk.drawN (id:=15) za zd [] [] (hsU _) [_,_,_,_,_,_,_,_,_,_,_,_,_,_,_,_,_,_,_,_] (by kernel_rfl) rfl)|(apply Walk.drawN (id:=19) za zd [] [] (hsU _) [_,_,_,_,_,_,_,_,_,_,_,_,_,_] (by kernel_rfl) rfl)|((refine zb.ret hre ?_);conv=>whnf)|fail
       refine Walk.loopK za [] [(1,natA m'),(2,_),(3,_),(6,_),(7,_),(8,_),(10,natA q),(11,_),(12,_),(14,_)] ⟨congrArg (fun z=>some (AV.int .i64 z)) hm',rfl,rfl,rfl,rfl,rfl,congrArg (fun z=>some (AV.int .i64 z)) hq,rfl,rfl,rfl,trivial⟩ (fun j : Nat=>j <= k) (fun j=>[(15,natA j)]) (fun j=>[.grow 4 false (tvs k (mixF F (fun t=>F t && dryT s t q m') j))]) (fun j=>k - j) 0 (Nat.zero_le _) (by show [Blk.grow _ false (tvs k (mixF F (fun t=>F t && dryT s t q m') 0))] = _;rw [show tvs k (mixF F (fun t=>F t && dryT s t q m') 0) = tvs k F from jr fun i _=>if_neg (by omega)];rfl) ⟨rfl,trivial⟩ ?_
       intro j hj
       conv=>whnf
       by_cases hlt2 : j < k
       ·have hwt:=hwet j q m' (by omega) (by omega)
        have hnx:=wk F (fun t=>F t && dryT s t q m') j
        have hat:=gH F (fun t=>F t && dryT s t q m') j
        cases hF : F j with
        | false =>
          rw [hF] at hat
          rw [hF,Bool.false_and] at hnx
          repeat' first|((with_reducible first|apply XBr.ff|refine XBr.y fun h=>?_|refine XBr.n fun h=>?_|refine XBr.dec (fun h=>?_) fun h=>?_|refine XInt.a ?_) <;> conv=>whnf)|((first|(first|refine zh.mk (zE _ _) ?_|refine zh.mk ⟨zE _ _,rfl,by omega,by omega⟩ ?_)|((refine XGet.tvs rfl (by omega) ?_);rw [show ((j : Int)).toNat = j from rfl,hat])|((refine XPut.tvs false rfl rfl (by omega) ?_);rw [show ((j : Int)).toNat = j from rfl,hnx]));conv=>whnf)|fail
          exact zj.go (j + 1) (by omega) (by omega) rfl ⟨rfl,rfl,rfl,rfl,rfl,rfl,rfl,rfl,rfl,rfl,rfl,trivial⟩
        | true =>
          rw [hF] at hat
          rw [hF,Bool.true_and] at hnx
          repeat' first|((with_reducible first|apply XBr.tt|refine XBr.y fun h=>?_|refine XBr.n fun h=>?_|refine XBr.dec (fun h=>?_) fun h=>?_|refine XInt.a ?_) <;> conv=>whnf)|((first|(first|refine zh.mk (zE _ _) ?_|refine zh.mk ⟨zE _ _,rfl,by omega,by omega⟩ ?_)|((refine XGet.tvs rfl (by omega) ?_);rw [show ((j : Int)).toNat = j from rfl,hat])|(refine zb.ret hwt ?_)|((refine XPut.tvs (dryT s j q m') (by simp) rfl (by omega) ?_);rw [show ((j : Int)).toNat = j from rfl,hnx]));conv=>whnf)|fail
          exact zj.go (j + 1) (by omega) (by omega) rfl ⟨rfl,rfl,rfl,rfl,rfl,rfl,rfl,rfl,rfl,rfl,rfl,trivial⟩
       obtain rfl : j = k:=by omega
       rw [wQ]
       repeat' first|((with_reducible first|refine XBr.y fun h=>?_|refine XBr.n fun h=>?_|refine XBr.dec (fun h=>?_) fun h=>?_|refine XInt.a ?_) <;> conv=>whnf)|((first|refine zh.mk (zE _ _) ?_|refine zh.mk ⟨zE _ _,rfl,by omega,by omega⟩ ?_);conv=>whnf)|fail
       exact zj.go (i + 1,q,m',(fun t=>F t && dryT s t q m'),w) ⟨by dsimp only;omega,by dsimp only;omega,by dsimp only;omega,by dsimp only;omega,hs⟩ (by dsimp only;omega) rfl ⟨rfl,rfl,rfl,rfl,rfl,rfl,rfl,rfl,rfl,rfl,trivial⟩
      ·rw [if_neg (fun h=>c1 h.1)] at hs
       repeat' first|((with_reducible first|apply XBr.tt|apply XBr.ff|refine XBr.y fun h=>?_|refine XBr.n fun h=>?_|refine XBr.dec (fun h=>?_) fun h=>?_|refine XBr.y1 fun h=>?_|refine XBr.n1 fun h=>?_|refine XBr.beq (fun h=>?_) fun h=>?_|refine XInt.a ?_|apply Chk.go|apply ChkA.go|apply ChkF.go|apply ChkB.go|apply zq.mk) <;> conv=>whnf)|(refine XIx.a ?_;conv=>whnf)|(with_reducible first|apply XBr.not|apply XAnd.mk|exact trivial)|(exact zg.mk rfl rfl)|(apply Walk.drawN (id:=15) za zd [] [] (hsU _) [_,_,_,_,_,_,_,_,_,_,_,_,_,_,_,_,_,_,_,_] (by kernel_rfl) rfl)|(apply Walk.drawN (id:=19) za zd [] [] (hsU _) [_,_,_,_,_,_,_,_,_,_,_,_,_,_] (by kernel_rfl) rfl)|((refine zb.ret hre ?_);conv=>whnf)|fail
       refine Walk.loopK za [] [(1,natA m'),(2,_),(3,_),(6,_),(7,_),(8,_),(10,natA q),(11,_),(12,_),(14,_)] ⟨congrArg (fun z=>some (AV.int .i64 z)) hm',rfl,rfl,rfl,rfl,rfl,congrArg (fun z=>some (AV.int .i64 z)) hq,rfl,rfl,rfl,trivial⟩ (fun j : Nat=>j <= k) (fun j=>[(15,natA j)]) (fun j=>[.grow 4 false (tvs k (mixF F (fun t=>F t && dryT s t q m') j))]) (fun j=>k - j) 0 (Nat.zero_le _) (by show [Blk.grow _ false (tvs k (mixF F (fun t=>F t && dryT s t q m') 0))] = _;rw [show tvs k (mixF F (fun t=>F t && dryT s t q m') 0) = tvs k F from jr fun i _=>if_neg (by omega)];rfl) ⟨rfl,trivial⟩ ?_
       intro j hj
       conv=>whnf
       by_cases hlt2 : j < k
       ·have hwt:=hwet j q m' (by omega) (by omega)
        have hnx:=wk F (fun t=>F t && dryT s t q m') j
        have hat:=gH F (fun t=>F t && dryT s t q m') j
        cases hF : F j with
        | false =>
          rw [hF] at hat
          rw [hF,Bool.false_and] at hnx
          repeat' first|((with_reducible first|apply XBr.ff|refine XBr.y fun h=>?_|refine XBr.n fun h=>?_|refine XBr.dec (fun h=>?_) fun h=>?_|refine XInt.a ?_) <;> conv=>whnf)|((first|(first|refine zh.mk (zE _ _) ?_|refine zh.mk ⟨zE _ _,rfl,by omega,by omega⟩ ?_)|((refine XGet.tvs rfl (by omega) ?_);rw [show ((j : Int)).toNat = j from rfl,hat])|((refine XPut.tvs false rfl rfl (by omega) ?_);rw [show ((j : Int)).toNat = j from rfl,hnx]));conv=>whnf)|fail
          exact zj.go (j + 1) (by omega) (by omega) rfl ⟨rfl,rfl,rfl,rfl,rfl,rfl,rfl,rfl,rfl,rfl,rfl,trivial⟩
        | true =>
          rw [hF] at hat
          rw [hF,Bool.true_and] at hnx
          repeat' first|((with_reducible first|apply XBr.tt|refine XBr.y fun h=>?_|refine XBr.n fun h=>?_|refine XBr.dec (fun h=>?_) fun h=>?_|refine XInt.a ?_) <;> conv=>whnf)|((first|(first|refine zh.mk (zE _ _) ?_|refine zh.mk ⟨zE _ _,rfl,by omega,by omega⟩ ?_)|((refine XGet.tvs rfl (by omega) ?_);rw [show ((j : Int)).toNat = j from rfl,hat])|(refine zb.ret hwt ?_)|((refine XPut.tvs (dryT s j q m') (by simp) rfl (by omega) ?_);rw [show ((j : Int)).toNat = j from rfl,hnx]));conv=>whnf)|fail
          exact zj.go (j + 1) (by omega) (by omega) rfl ⟨rfl,rfl,rfl,rfl,rfl,rfl,rfl,rfl,rfl,rfl,rfl,trivial⟩
       obtain rfl : j = k:=by omega
       rw [wQ]
       repeat' first|((with_reducible first|refine XBr.y fun h=>?_|refine XBr.n fun h=>?_|refine XBr.dec (fun h=>?_) fun h=>?_|refine XInt.a ?_) <;> conv=>whnf)|((first|refine zh.mk (zE _ _) ?_|refine zh.mk ⟨zE _ _,rfl,by omega,by omega⟩ ?_);conv=>whnf)|fail
       exact zj.go (i + 1,q,m',(fun t=>F t && dryT s t q m'),w) ⟨by dsimp only;omega,by dsimp only;omega,by dsimp only;omega,by dsimp only;omega,hs⟩ (by dsimp only;omega) rfl ⟨rfl,rfl,rfl,rfl,rfl,rfl,rfl,rfl,rfl,rfl,trivial⟩
    ·rw [if_neg (fun h=>hle h.2)] at hs
     repeat' first|((with_reducible first|apply XBr.tt|refine XBr.y fun h=>?_|refine XBr.n fun h=>?_|refine XBr.dec (fun h=>?_) fun h=>?_|refine XInt.a ?_|apply Chk.go|apply ChkA.go|apply ChkF.go|apply ChkB.go|apply zq.mk) <;> conv=>whnf)|(refine XIx.a ?_;conv=>whnf)|(with_reducible first|apply XBr.not|apply XAnd.mk|exact trivial)|(exact zg.mk rfl rfl)|(apply Walk.drawN (id:=15) za zd [] [] (hsU _) [_,_,_,_,_,_,_,_,_,_,_,_,_,_,_,_,_,_,_,_] (by kernel_rfl) rfl)|((refine zb.ret hre ?_);conv=>whnf)|fail
     rw [hfr,hs]
     exact ⟨.low rfl⟩
 obtain rfl : i = l.length:=by omega
 rw [List.drop_length,fixS] at hs
 have hfr2 : fixR s m0 l = (if (p : Int) = s.home then bsum F k else 0,w):=by rw [hfr,hs]
 repeat' ((with_reducible first|refine XBr.y fun h=>?_|refine XBr.n fun h=>?_|refine XBr.dec (fun h=>?_) fun h=>?_) <;> conv=>whnf)
 refine Walk.loopK za [] [(3,_),(6,_),(7,_),(8,_),(10,_),(11,_),(12,_)] ⟨rfl,rfl,rfl,rfl,rfl,rfl,rfl,trivial⟩ (fun j : Nat=>j <= k) (fun j=>[(16,natA (if (p : Int) = s.home then bsum F j else 0)),(17,natA j)]) (fun _=>[.grow 4 false (tvs k F)]) (fun j=>k - j) 0 (Nat.zero_le _) rfl ⟨by split <;> rfl,rfl,trivial⟩ ?_
 intro j hj
 conv=>whnf
 have hbl : bsum F j < 2 ^ j:=jl _ _
 have hb2 : 2 ^ j <= 2 ^ 4:=Nat.pow_le_pow_right (by omega) (by omega)
 have hnx : bsum F (j + 1) = bsum F j + if F j = true then 2 ^ j else 0:=rfl
 have hend : j = k -> bsum F j = bsum F k:=fun h=>by rw [h]
 by_cases hlt2 : j < k
 ·have ho:=rOne_c j (by omega)
  generalize bsum F j = v at hbl hnx hend
  generalize 2 ^ j = u at hbl hb2 hnx ho
  cases hF : F j with
  | false =>
    rw [hF,if_neg (by simp),Nat.add_zero] at hnx
    repeat' first|((with_reducible first|apply XBr.ff|refine XBr.y fun h=>?_|refine XBr.n fun h=>?_|refine XBr.dec (fun h=>?_) fun h=>?_|refine XInt.a ?_) <;> conv=>whnf)|((first|(first|refine zh.mk (zE _ _) ?_|refine zh.mk ⟨zE _ _,rfl,by omega,by omega⟩ ?_)|((refine XGet.tvs rfl (by omega) ?_);rw [show ((j : Int)).toNat = j from rfl,hF]));conv=>whnf)|fail
    exact zj.go (j + 1) (by omega) (by omega) rfl ⟨rfl,rfl,rfl,rfl,rfl,rfl,rfl,(by rw [hnx];rfl),rfl,trivial⟩
  | true =>
    rw [hF,if_pos rfl] at hnx
    by_cases hph : (p : Int) = s.home
    ·rw [if_pos hph]
     repeat' first|((with_reducible first|apply XBr.tt|refine XBr.y fun h=>?_|refine XBr.n fun h=>?_|refine XBr.dec (fun h=>?_) fun h=>?_|refine XBr.y1 fun h=>?_|refine XBr.n1 fun h=>?_|refine XBr.beq (fun h=>?_) fun h=>?_|refine XInt.a ?_) <;> conv=>whnf)|((first|(first|refine zh.mk (zE _ _) ?_|refine zh.mk ⟨zE _ _,rfl,by omega,by omega⟩ ?_)|((refine XGet.tvs rfl (by omega) ?_);rw [show ((j : Int)).toNat = j from rfl,hF])|(refine zb.ret ho ?_));conv=>whnf)|fail
     exact zj.go (j + 1) (by omega) (by omega) rfl ⟨rfl,rfl,rfl,rfl,rfl,rfl,rfl,(by rw [if_pos hph,hnx];exact congrArg (fun z=>some (AV.int .i64 z)) (by omega)),rfl,trivial⟩
    ·rw [if_neg hph]
     repeat' first|((with_reducible first|apply XBr.tt|refine XBr.y fun h=>?_|refine XBr.n fun h=>?_|refine XBr.dec (fun h=>?_) fun h=>?_|refine XBr.y1 fun h=>?_|refine XBr.n1 fun h=>?_|refine XBr.beq (fun h=>?_) fun h=>?_|refine XInt.a ?_) <;> conv=>whnf)|((first|(first|refine zh.mk (zE _ _) ?_|refine zh.mk ⟨zE _ _,rfl,by omega,by omega⟩ ?_)|((refine XGet.tvs rfl (by omega) ?_);rw [show ((j : Int)).toNat = j from rfl,hF]));conv=>whnf)|fail
     exact zj.go (j + 1) (by omega) (by omega) rfl ⟨rfl,rfl,rfl,rfl,rfl,rfl,rfl,(by rw [if_neg hph];rfl),rfl,trivial⟩
 obtain rfl : j = k:=by omega
 repeat' first|((with_reducible first|refine XBr.y fun h=>?_|refine XBr.n fun h=>?_|refine XBr.dec (fun h=>?_) fun h=>?_) <;> conv=>whnf)|((first|refine zh.mk (zE _ _) ?_|refine zh.mk ⟨zE _ _,rfl,by omega,by omega⟩ ?_);conv=>whnf)|fail
 rw [hfr2,hs]
 exact ⟨.low rfl⟩
end GA
end
