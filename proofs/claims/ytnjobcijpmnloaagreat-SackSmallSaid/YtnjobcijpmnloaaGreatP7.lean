/- Part 7 of a proof: S55, S29, S30, S31, S32, S56, S33, S57, S58, S59, S61, S62, S63, V4, V5, V6. -/
import Derived.Test.YtnjobcijpmnloaaGreatP6
set_option linter.unusedVariables false
set_option linter.unusedSimpArgs false
set_option maxRecDepth 8000
section
namespace GA
open Go Go.RowKit Go.Proofs
def rwI (parts out : List Int) : Nat -> Int
 | 0=>-1
 | i + 1=>if 0 < parts.getD i 0 /\ (rwI parts out i < 0 \/ parts.getD (rwI parts out i).toNat 0 * (2 * out.getD i 0 + 1) < parts.getD i 0 * (2 * out.getD (rwI parts out i).toNat 0 + 1)) then i else rwI parts out i
theorem rw_pq {parts out : List Int} {k : Nat} (hp : jX 9 parts) (ho : fa k out) : ∀ i,i <= 6 ->
  (rwI parts out i = -1 /\ pqI parts out i = (0,(0,1)) /\ ∀ j,j < i -> parts.getD j 0 = 0) \/ ∃ w : Nat,rwI parts out i = w /\ w < i /\ pqI parts out i = (w,quoA parts out w) /\ 0 < parts.getD w 0
 | 0,_=>.inl ⟨rfl,rfl,fun j hj=>by omega⟩
 | i + 1,hi=>by
   have a:=hp.2 i
   have b:=ho.2 i
   have e : rwI parts out (i + 1) = if 0 < parts.getD i 0 /\ (rwI parts out i < 0 \/ parts.getD (rwI parts out i).toNat 0 * (2 * out.getD i 0 + 1) < parts.getD i 0 * (2 * out.getD (rwI parts out i).toNat 0 + 1)) then (i : Int) else rwI parts out i:=rfl
   rcases rw_pq hp ho i (by omega) with ⟨h1,h2,h3⟩ | ⟨w,h1,h2,h3,h4⟩
   ·by_cases hc : 0 < parts.getD i 0
    ·right
     refine ⟨i,by rw [e,if_pos ⟨hc,.inl (by omega)⟩],by omega,?_,hc⟩
     rw [wc,h2];unfold pq;rw [if_pos (.inl ⟨rfl,hc⟩)]
    ·left
     have h0 : parts.getD i 0 = 0:=by omega
     refine ⟨by rw [e,if_neg (fun h=>hc h.1),h1],?_,fun j hj=>?_⟩
     ·rw [wc,h2];unfold pq
      rw [if_neg]
      rintro (⟨_,h⟩ | h)
      ·exact hc h
      ·unfold ky quoA at h;rw [h0] at h;simp at h
     ·by_cases hji : j = i
      ·subst hji;exact h0
      ·exact h3 j (by omega)
   ·have c:=ho.2 w
    have hw : (rwI parts out i).toNat = w:=by rw [h1];rfl
    have ab : ky (quoA parts out i) (quoA parts out w) = true ↔ parts.getD w 0 * (2 * out.getD i 0 + 1) < parts.getD i 0 * (2 * out.getD w 0 + 1):=by
     unfold ky quoA;rw [decide_eq_true_eq]
    have hpos : 0 < parts.getD w 0 * (2 * out.getD i 0 + 1):=Int.mul_pos h4 (by omega)
    by_cases hc : parts.getD w 0 * (2 * out.getD i 0 + 1) < parts.getD i 0 * (2 * out.getD w 0 + 1)
    ·have hpi : 0 < parts.getD i 0:=by
      rcases Int.lt_or_le 0 (parts.getD i 0) with h | h
      ·exact h
      ·have h0 : parts.getD i 0 = 0:=by omega
       rw [h0,Int.zero_mul] at hc;omega
     right
     refine ⟨i,by rw [e,if_pos ⟨hpi,.inr (by rw [hw];exact hc)⟩],by omega,?_,hpi⟩
     rw [wc,h3];unfold pq;rw [if_pos (.inr (ab.2 hc))]
    ·right
     refine ⟨w,?_,by omega,?_,h4⟩
     ·rw [e,if_neg,h1]
      rintro ⟨_,h | h⟩
      ·omega
      ·rw [hw] at h;exact hc h
     ·rw [wc,h3];unfold pq
      rw [if_neg]
      rintro (⟨h,_⟩ | h)
      ·have : parts.getD w 0 = 0:=congrArg Prod.fst h
       omega
      ·exact hc (ab.1 h)
theorem rw_six {parts out : List Int} {k : Nat} (hp : jX 9 parts) (ho : fa k out) : (rwI parts out 6 = -1 /\ zM parts = 0) \/ (rwI parts out 6 = (whoR parts out : Nat) /\ whoR parts out < 6 /\ zM parts ≠ 0):=by
 rcases rw_pq hp ho 6 (Nat.le_refl _) with ⟨h1,_,h3⟩ | ⟨w,h1,h2,h3,h4⟩
 ·left
  refine ⟨h1,?_⟩
  have h3' : parts = List.replicate 6 0:=List.eq_replicate_iff.2 ⟨hp.1,fun x hx=>by
   obtain ⟨j,hj,rfl⟩:=List.mem_iff_getElem.1 hx
   have:=h3 j (by have:=hp.1;omega)
   rwa [List.getD_eq_getElem?_getD,List.getElem?_eq_getElem hj,Option.getD_some] at this⟩
  rw [h3'];rfl
 ·right
  have hw : whoR parts out = w:=by unfold whoR;rw [h3]
  refine ⟨by rw [hw];exact h1,by omega,fun h=>?_⟩
  have:=(fq parts 0).2 _ (zu (d:=0) (show w < parts.length by have:=hp.1;omega))
  unfold zM at h;rw [h] at this;omega
theorem zeR (l : Ld) (o : LdOk l) (pay : Int) : Comp Tryz.prog 64 [ldA l,.int .i64 pay] (jL l pay):=by
 have hE : zN l pay = if inB pay 0 500 = false then 3 else if 0 < pay /\ zM (zG l) = 0 then 6 else 0:=by
  unfold zN;rw [if_neg (by rw [(zB l).2 o];simp)]
 have pk:=yA o
 have hparts:=wU l o
 unfold jL
 rw [hE]
 clear hE
 generalize zG l = parts at pk hparts
 refine Comp.body (T:=tab) (res:=[.tmp 4,.tmp 5]) zb [] Tryz.func64 rfl (by kernel_rfl) Tryz.ntmps64 rfl (by simp only [List.length_cons,List.length_nil];decide) (by simp only [lowL,AV.low,ldL];rfl) ?_;conv=>whnf
 repeat' first|(refine za.ret (fx _ _ _) ?_;conv=>whnf)|((with_reducible apply XBr.mk') <;> (intro h;conv=>whnf))|fail
 ·rw [ka,Bool.not_eq_true'] at h
  rw [if_neg (by rw [if_pos h];decide),if_pos h]
  exact ⟨Froz.low rfl⟩
 have hbd:=h
 rw [ka,Bool.not_eq_false',zL] at hbd
 have hE2 : (if inB pay 0 500 = false then (3 : Int) else if 0 < pay /\ zM parts = 0 then 6 else 0) = if 0 < pay /\ zM parts = 0 then 6 else 0:=if_neg (by rw [zL.2 hbd];simp)
 rw [hE2]
 clear hE2
 obtain ⟨pn,rfl⟩:=Int.eq_ofNat_of_zero_le hbd.1
 have pl:=pk.1
 apply Walk.drawX zb zk [] [2] (hsV _ [id,fun H=>H ++ [.grow 3 false (ints (List.replicate 6 0))]]) [_,_,.gr 0 6,_,_] (by kernel_rfl) rfl
 ·skip
  repeat' first|((with_reducible refine zj.mk ?_ ?_);(first | omega | rfl | decide|exact ⟨rfl,by decide,rfl⟩|exact zz _|exact zp _|exact zq _|(unfold Room;constructor <;> ((try simp) <;> omega))|exact ⟨rfl,by simp only [List.length_map],by unfold Room;constructor <;> ((try simp) <;> omega)⟩|exact ⟨by omega,by omega,by unfold Room;constructor <;> ((try simp) <;> omega)⟩);conv=>whnf)|(with_reducible apply XAnd.mk)|((first|(with_reducible apply Chk.go)|(with_reducible apply ChkA.go));conv=>whnf)|(exact zg.mk rfl rfl)|(with_reducible exact trivial)|(refine za.ret hparts ?_;conv=>whnf)|fail
 ·skip
  repeat' first|(with_reducible apply XAnd.mk)|((first|(with_reducible apply Chk.go)|(with_reducible apply ChkF.go)|(with_reducible apply ChkB.go));conv=>whnf)|(exact zg.mk rfl rfl)|(with_reducible exact trivial)|(refine za.ret hparts ?_;conv=>whnf)|fail
 conv=>whnf
 skip
 refine Walk.loop zb [] (fun k : Nat=>k <= pn /\ (0 < k -> zM parts ≠ 0)) (fun k=>[(1,natA pn),(6,.sl false (ints parts)),(7,.gr 0 6),(8,natA k)]) (fun k=>[.grow 3 false (ints (zJ parts k))]) (fun k=>pn - k) 0 ⟨Nat.zero_le _,fun h=>absurd h (Nat.lt_irrefl _)⟩ rfl ⟨rfl,rfl,rfl,rfl,trivial⟩ ?_
 rintro k ⟨hk,hkg⟩
 have ok:=kb pk k
 have hnx : zJ parts (k + 1) = jx parts (zJ parts k):=rfl
 have hfin : k = pn -> zJ parts pn = zJ parts k:=fun h=>by rw [h]
 generalize zJ parts k = out at ok hnx hfin
 have okl:=ok.1
 have h6:=rw_six pk ok
 conv=>whnf
 repeat' first|((with_reducible apply XBr.dec) <;> (intro h;first|(exfalso;omega)|((try simp only [List.length_map] at h);first|(exfalso;omega)|(conv=>whnf))))|fail
 ·refine Walk.loop zb [] (fun i : Nat=>i <= 6) (fun i=>[(1,natA pn),(6,.sl false (ints parts)),(7,.gr 0 6),(8,natA k),(9,.int .i64 (rwI parts out i)),(10,natA i)]) (fun _=>[.grow 3 false (ints out)]) (fun i=>6 - i) 0 (Nat.zero_le _) rfl ⟨rfl,rfl,rfl,rfl,rfl,rfl,trivial⟩ ?_
  intro i hi
  have hrn : rwI parts out (i + 1) = if 0 < parts.getD i 0 /\ (rwI parts out i < 0 \/ parts.getD (rwI parts out i).toNat 0 * (2 * out.getD i 0 + 1) < parts.getD i 0 * (2 * out.getD (rwI parts out i).toNat 0 + 1)) then (i : Int) else rwI parts out i:=rfl
  have hrw : rwI parts out i = -1 \/ 0 <= rwI parts out i /\ rwI parts out i < 6:=by
   rcases rw_pq pk ok i hi with ⟨h1,_⟩ | ⟨w,h1,h2,_⟩
   ·exact .inl h1
   ·right;omega
  have hr6 : i = 6 -> rwI parts out 6 = rwI parts out i:=fun h=>by rw [h]
  generalize rwI parts out i = r at hrn hrw hr6
  have a:=pk.2 i
  have b:=ok.2 i
  have c:=pk.2 r.toNat
  have d:=ok.2 r.toNat
  have a2 : 0 <= parts.getD i default /\ parts.getD i default <= 900:=by have : 0 <= parts.getD i default /\ parts.getD i default <= 100 * (9 : Nat):=a;omega
  have b2 : 0 <= out.getD (i : Int).toNat default /\ out.getD (i : Int).toNat default <= 500:=by have : 0 <= out.getD (i : Int).toNat default /\ out.getD (i : Int).toNat default <= (k : Nat):=b;omega
  have c2 : 0 <= parts.getD r.toNat default /\ parts.getD r.toNat default <= 900:=by have : 0 <= parts.getD r.toNat default /\ parts.getD r.toNat default <= 100 * (9 : Nat):=c;omega
  have d2 : 0 <= out.getD r.toNat default /\ out.getD r.toNat default <= 500:=by have : 0 <= out.getD r.toNat default /\ out.getD r.toNat default <= (k : Nat):=d;omega
  have m1 : 0 <= parts.getD i default * (2 * out.getD r.toNat default + 1) /\ parts.getD i default * (2 * out.getD r.toNat default + 1) <= 900 * 1001:=jj a2.1 a2.2 (by omega) (by omega)
  have m2 : 0 <= parts.getD r.toNat default * (2 * out.getD (i : Int).toNat default + 1) /\ parts.getD r.toNat default * (2 * out.getD (i : Int).toNat default + 1) <= 900 * 1001:=jj c2.1 c2.2 (by omega) (by omega)
  conv=>whnf
  repeat' first|((with_reducible apply XBr.dec) <;> (intro h;first|(exfalso;omega)|((try simp only [List.length_map] at h);first|(exfalso;omega)|(conv=>whnf))))|fail
  ·by_cases hc1 : 0 < parts.getD i default
   ·by_cases hc2 : r < 0
    ·apply Walk.drawX zb zk [] [] (hsK _) [_,_,_,_,_,.bool true,_,_,.bool true,_,_,_,_,_,_,_,_,_,_,_,_,_,_,_,_,_,_,_,_,_,_,_,.bool true,.bool true] (by kernel_rfl) rfl
     ·skip
      repeat' first|((first|(with_reducible apply XBr.tt)|((with_reducible refine XIx.nat ?_ ?_ ?_);omega;(intro _;rfl)));conv=>whnf)|(with_reducible apply XAnd.mk)|((first|(with_reducible apply Chk.go)|(with_reducible apply ChkA.go));conv=>whnf)|(exact zg.mk rfl rfl)|(with_reducible exact trivial)|(exact zg.mk (congrArg AV.bool (decide_eq_true hc1)) rfl)|(exact zg.mk (congrArg AV.bool (decide_eq_true hc2)) rfl)|fail
     ·skip
      repeat' first|(with_reducible apply XAnd.mk)|((first|(with_reducible apply ChkF.go)|(with_reducible apply ChkB.go));conv=>whnf)|(with_reducible exact trivial)|fail
     ·conv=>whnf
      repeat' first|((first|(with_reducible apply XBr.tt)|(with_reducible refine XInt.i64 (by omega) (by omega) ?_));conv=>whnf)|fail
      refine zh.go (i + 1) (by omega) (by omega) rfl ⟨rfl,rfl,rfl,rfl,?_,rfl,trivial⟩
      rw [hrn,if_pos ⟨hc1,.inl hc2⟩];rfl
    ·have hr : r ≠ -1:=by omega
     apply Walk.drawX zb zk [] [] (hsK _) [_,_,_,_,_,.bool true,_,_,.bool false,_,_,_,_,_,_,_,_,_,_,_,_,_,_,_,_,_,_,_,_,_,_,.bool (decide (parts.getD r.toNat default * (2 * out.getD (i : Int).toNat default + 1) < parts.getD i default * (2 * out.getD r.toNat default + 1))),.bool (decide (parts.getD r.toNat default * (2 * out.getD (i : Int).toNat default + 1) < parts.getD i default * (2 * out.getD r.toNat default + 1))),.bool (decide (parts.getD r.toNat default * (2 * out.getD (i : Int).toNat default + 1) < parts.getD i default * (2 * out.getD r.toNat default + 1)))] (by kernel_rfl) rfl
     ·skip
      repeat' first|((first|(with_reducible apply XBr.tt)|(with_reducible apply XBr.ff)|(with_reducible refine XInt.i64 (by omega) (by omega) ?_)|((with_reducible refine XIx.nat ?_ ?_ ?_);omega;(intro _;rfl))|((with_reducible refine XIx.map ?_ ?_ ?_ ?_);omega;omega;(intro _;rfl)));conv=>whnf)|(with_reducible apply XAnd.mk)|((first|(with_reducible apply Chk.go)|(with_reducible apply ChkA.go));conv=>whnf)|(exact zg.mk rfl rfl)|(with_reducible exact trivial)|(exact zg.mk (congrArg AV.bool (decide_eq_true hc1)) rfl)|(exact zg.mk (congrArg AV.bool (decide_eq_false hc2)) rfl)|((first|(refine zj.mk ⟨by rw [List.length_map];exact okl,rfl,by omega,by omega⟩ ?_)|(refine XGet.map okl.symm (by omega) ?_));conv=>whnf)|fail
     ·skip
      repeat' first|(with_reducible apply XAnd.mk)|((first|(with_reducible apply ChkF.go)|(with_reducible apply ChkB.go));conv=>whnf)|(with_reducible exact trivial)|fail
     ·conv=>whnf
      repeat' first|((with_reducible apply XBr.dec) <;> (intro h;first|(exfalso;omega)|((try simp only [List.length_map] at h);first|(exfalso;omega)|(conv=>whnf))))|((with_reducible refine XInt.i64 (by omega) (by omega) ?_);conv=>whnf)|fail
      ·refine zh.go (i + 1) (by omega) (by omega) rfl ⟨rfl,rfl,rfl,rfl,?_,rfl,trivial⟩
       rw [hrn,if_pos ⟨hc1,.inr h⟩];rfl
      ·refine zh.go (i + 1) (by omega) (by omega) rfl ⟨rfl,rfl,rfl,rfl,?_,rfl,trivial⟩
       rw [hrn,if_neg (fun hh=>hh.2.elim hc2 h)];rfl
   ·apply Walk.drawX zb zk [] [] (hsK _) [_,_,_,_,_,.bool false,_,_,_,_,_,_,_,_,_,_,_,_,_,_,_,_,_,_,_,_,_,_,_,_,_,_,_,.bool false] (by kernel_rfl) rfl
    ·skip
     repeat' first|((first|(with_reducible apply XBr.ff)|((with_reducible refine XIx.nat ?_ ?_ ?_);omega;(intro _;rfl)));conv=>whnf)|(with_reducible apply XAnd.mk)|((first|(with_reducible apply Chk.go)|(with_reducible apply ChkA.go));conv=>whnf)|(exact zg.mk rfl rfl)|(with_reducible exact trivial)|(exact zg.mk (congrArg AV.bool (decide_eq_false hc1)) rfl)|fail
    ·skip
     repeat' first|(with_reducible apply XAnd.mk)|((first|(with_reducible apply ChkF.go)|(with_reducible apply ChkB.go));conv=>whnf)|(with_reducible exact trivial)|fail
    ·conv=>whnf
     repeat' first|((first|(with_reducible apply XBr.ff)|(with_reducible refine XInt.i64 (by omega) (by omega) ?_));conv=>whnf)|fail
     refine zh.go (i + 1) (by omega) (by omega) rfl ⟨rfl,rfl,rfl,rfl,?_,rfl,trivial⟩
     rw [hrn,if_neg (fun hh=>hc1 hh.1)];rfl
  ·have e6:=hr6 (by omega)
   rw [e6] at h6
   have hz : zM parts = 0:=by
    rcases h6 with h6 | h6
    ·exact h6.2
    ·omega
   have e : (if 0 < (pn : Int) /\ zM parts = 0 then (6 : Int) else 0) = 6:=if_pos ⟨by omega,hz⟩
   rw [e,if_neg (by decide)]
   exact ⟨Froz.low rfl⟩
  ·have e6:=hr6 (by omega)
   rw [e6] at h6
   repeat' first|((first|(with_reducible refine XInt.i64 (by omega) (by omega) ?_)|(refine zj.mk ⟨by rw [List.length_map];exact okl,rfl,by omega,by omega⟩ ?_)|(refine XGet.map okl.symm (by omega) ?_)|(refine XPut.ints out _ rfl okl.symm (by omega) ?_));conv=>whnf)|fail
   have hw : r = (whoR parts out : Nat):=by
    rcases h6 with h6 | h6
    ·omega
    ·exact h6.1
   have hg : zM parts ≠ 0:=by
    rcases h6 with h6 | h6
    ·omega
    ·exact h6.2.2
   subst hw
   refine zh.go (k + 1) ⟨by omega,fun _=>hg⟩ (by omega) ?_ ⟨rfl,rfl,rfl,rfl,trivial⟩
   rw [hnx];rfl
 ·have hk' : k = pn:=by omega
  have e : (if 0 < (pn : Int) /\ zM parts = 0 then (6 : Int) else 0) = 0:=if_neg (fun h=>hkg (by omega) h.2)
  rw [e,if_pos rfl,Int.toNat_natCast,hfin hk']
  exact ⟨Froz.tup (.cons (Froz.grow rfl (by rw [List.length_map];exact okl) (lowI _)) (.cons (Froz.low rfl) .nil))⟩
end GA
end
section
namespace GA
open Go Go.RowKit Go.Proofs
def Fle (a b : Int × Int) : Prop:=a.1 * b.2 <= b.1 * a.2
theorem Fle.refl (a : Int × Int) : Fle a a:=Int.le_refl _
theorem Fle.trans {a b c : Int × Int} (h1 : Fle a b) (h2 : Fle b c) (ha : 0 <= a.2) (hb : 0 < b.2) (hc : 0 <= c.2) : Fle a c:=by
 unfold Fle at *
 have e1 : a.1 * b.2 * c.2 <= b.1 * a.2 * c.2:=Int.mul_le_mul_of_nonneg_right h1 hc
 have e2 : b.1 * c.2 * a.2 <= c.1 * b.2 * a.2:=Int.mul_le_mul_of_nonneg_right h2 ha
 have e3 : a.1 * c.2 * b.2 <= c.1 * a.2 * b.2:=by
  calc a.1 * c.2 * b.2 = a.1 * b.2 * c.2:=by rw [Int.mul_right_comm]
   _ <= b.1 * a.2 * c.2:=e1
   _ = b.1 * c.2 * a.2:=by rw [Int.mul_right_comm]
   _ <= c.1 * b.2 * a.2:=e2
   _ = c.1 * a.2 * b.2:=by rw [Int.mul_right_comm]
 exact Int.le_of_mul_le_mul_right e3 hb
theorem Fle.total (a b : Int × Int) : Fle a b \/ Fle b a:=by unfold Fle;omega
theorem zbY {q r : Int × Int} : ky q r = true ↔ ¬ Fle q r:=by unfold ky Fle;rw [decide_eq_true_eq];omega
theorem Fle.pos {a b : Int × Int} (h : Fle a b) (ha : 0 < a.1) (hb : 0 < b.2) (ha2 : 0 <= a.2) : 0 < b.1:=by
 unfold Fle at h
 have h1 : 0 < a.1 * b.2:=Int.mul_pos ha hb
 rcases Int.lt_or_le 0 b.1 with h2 | h2
 ·exact h2
 ·have:=Int.mul_le_mul_of_nonneg_right h2 ha2
  rw [Int.zero_mul] at this;omega
def nxQ (parts s : List Int) (i : Nat) : Int × Int:=(parts.getD i 0,2 * s.getD i 0 + 1)
def lsQ (parts s : List Int) (i : Nat) : Int × Int:=(parts.getD i 0,2 * s.getD i 0 - 1)
end GA
end
section
namespace GA
open Go Go.RowKit Go.Proofs
def rtA (d : Int × Int) : AV:=.agg [.int .i64 d.1,.int .i64 d.2]
def lowR (q : Nat × Nat) : Int × Int:=(((q.1 / Nat.gcd q.1 q.2 : Nat) : Int),((q.2 / Nat.gcd q.1 q.2 : Nat) : Int))
theorem XInt.tdivN {p a : Nat} {k : AV -> Prop} (h : p <= 1000000) (hk : k (.int .i64 ((p / a : Nat) : Int))) : XInt .i64 ((p : Int).tdiv a) k:=by
 have e : (p : Int).tdiv a = ((p / a : Nat) : Int):=rfl
 have hd : p / a <= p:=Nat.div_le_self _ _
 rw [e]
 generalize p / a = n at hk hd
 exact XInt.i64 (by omega) (by omega) hk
theorem lowest_c (p o : Nat) (ho : 0 < o) (h1 : p <= 1000000) (h2 : o <= 1000000) : Comp Tryz.prog 39 [qA (p,o)] (rtA (lowR (p,o))):=by
 refine Comp.body (T:=tab) (res:=[.cell 2 33]) zb [] Tryz.func39 rfl (by kernel_rfl) Tryz.ntmps39 rfl (by simp only [List.length_cons,List.length_nil];decide) (by rfl) ?_;conv=>whnf
 apply Walk.drawX zb zk [] [] (hsK _) [_,_,_,_,_,_] (by kernel_rfl) rfl
 ·skip
  repeat' first|(with_reducible apply XAnd.mk)|((first|(with_reducible apply Chk.go)|(with_reducible apply ChkA.go));conv=>whnf)|(exact zg.mk rfl rfl)|(with_reducible exact trivial)|fail
 ·skip
  repeat' first|(with_reducible apply XAnd.mk)|((first|(with_reducible apply ChkF.go)|(with_reducible apply ChkB.go));conv=>whnf)|(with_reducible exact trivial)|fail
 ·conv=>whnf
  refine Walk.loop zb [] (fun g : Nat × Nat=>Nat.gcd g.1 g.2 = Nat.gcd p o /\ g.1 <= 1000000 /\ g.2 <= 1000000 /\ 0 < g.1 + g.2) (fun g=>[(1,.pim [.int .i64 p,.int .i64 o]),(2,.ptr 0 0),(3,natA g.1),(4,natA g.2)])
   (fun _=>[.cells [.int .i64 0,.int .i64 0]]) (fun g=>g.2) (p,o) ⟨rfl,h1,h2,by dsimp only;omega⟩ rfl ⟨rfl,rfl,rfl,rfl,trivial⟩ ?_
  rintro ⟨a,b⟩ ⟨g1,g2,g3,g4⟩
  dsimp only at g1 g2 g3 g4 ⊢
  conv=>whnf
  repeat' first|((with_reducible apply XBr.dec) <;> (intro h;first|(exfalso;omega)|((try simp only [List.length_map] at h);first|(exfalso;omega)|(conv=>whnf))))|fail
  ·have hb : 0 < b:=by omega
   have hm:=Nat.mod_lt a hb
   have ht : (a : Int).tmod b = ((a % b : Nat) : Int):=rfl
   apply Walk.drawX zb zk [] [] (hsK _) [natA b,natA a,natA b,natA (a % b),natA b,natA (a % b)] (by kernel_rfl) rfl
   ·skip
    repeat' first|((with_reducible refine zj.mk ?_ ?_);(first | omega | rfl | decide|exact ⟨rfl,by decide,rfl⟩|exact zz _|exact zp _|exact zq _|(unfold Room;constructor <;> ((try simp) <;> omega))|exact ⟨rfl,by simp only [List.length_map],by unfold Room;constructor <;> ((try simp) <;> omega)⟩|exact ⟨by omega,by omega,by unfold Room;constructor <;> ((try simp) <;> omega)⟩);conv=>whnf)|(with_reducible apply XAnd.mk)|((first|(with_reducible apply Chk.go)|(with_reducible apply ChkA.go));conv=>whnf)|(exact zg.mk rfl rfl)|(with_reducible exact trivial)|fail
   ·skip
    repeat' first|(with_reducible apply XAnd.mk)|((first|(with_reducible apply ChkF.go)|(with_reducible apply ChkB.go));conv=>whnf)|(with_reducible exact trivial)|fail
   ·conv=>whnf
    skip
    refine zh.go (b,a % b) ⟨by dsimp only;rw [Nat.gcd_comm,<- g1,Nat.gcd_comm a b,Nat.gcd_rec b a],by dsimp only;omega,by dsimp only;omega,by dsimp only;omega⟩ (by dsimp only;omega) rfl ⟨rfl,rfl,rfl,rfl,trivial⟩
  ·have hb : b = 0:=by omega
   subst hb
   rw [Nat.gcd_zero_right] at g1
   have hd1 : p / a <= p:=Nat.div_le_self _ _
   have hd2 : o / a <= o:=Nat.div_le_self _ _
   have ht1 : (p : Int).tdiv a = ((p / a : Nat) : Int):=rfl
   have ht2 : (o : Int).tdiv a = ((o / a : Nat) : Int):=rfl
   apply Walk.drawX zb zk [] [9] (hsV _ [id,fun _=>[.cells [natA (p / a),natA (o / a)]]]) [_,_,_,natA (p / a),_,_,_,natA (o / a),.agg [natA (p / a),natA (o / a)],_] (by kernel_rfl) rfl
   ·skip
    repeat' first|((with_reducible refine zj.mk ?_ ?_);(first | omega | rfl | decide|exact ⟨rfl,by decide,rfl⟩|exact zz _|exact zp _|exact zq _|(unfold Room;constructor <;> ((try simp) <;> omega))|exact ⟨rfl,by simp only [List.length_map],by unfold Room;constructor <;> ((try simp) <;> omega)⟩|exact ⟨by omega,by omega,by unfold Room;constructor <;> ((try simp) <;> omega)⟩);conv=>whnf)|(with_reducible apply XAnd.mk)|((first|(with_reducible apply Chk.go)|(with_reducible apply ChkA.go));conv=>whnf)|(exact zg.mk rfl rfl)|(with_reducible exact trivial)|((refine XInt.tdivN (by omega) ?_);conv=>whnf)|fail
   ·skip
    repeat' first|(with_reducible apply XAnd.mk)|((first|(with_reducible apply ChkF.go)|(with_reducible apply ChkB.go));conv=>whnf)|(with_reducible exact trivial)|fail
   ·conv=>whnf
    skip
    unfold lowR;dsimp only
    rw [<- g1]
    exact ⟨Froz.low rfl⟩
def minS (m x : Int × Int) : Int × Int:=if ky m x = true then x else m
def minI (xs : List (Int × Int)) : Nat -> Int × Int
 | 0=>xs.getD 0 default
 | i + 1=>minS (minI xs i) (xs.getD (i + 1) default)
def cmpR (q r : Int × Int) : Int:=if ky r q = true then -1 else if ky q r = true then 1 else 0
def QOk (q : Int × Int) : Prop:=(0 <= q.1 /\ q.1 <= 1000000) /\ 0 <= q.2 /\ q.2 <= 1000000
theorem cmp_c (q r : Int × Int) (h1 : QOk q) (h2 : QOk r) : Comp Tryz.prog 38 [qA q,qA r] (.int .i64 (cmpR q r)):=by
 refine Comp.body (T:=tab) (res:=[.tmp 4]) zb [] Tryz.func38 rfl (by kernel_rfl) Tryz.ntmps38 rfl (by simp only [List.length_cons,List.length_nil];decide) (by rfl) ?_;conv=>whnf
 unfold cmpR
 refine za.ret (zcP r q h2.1 h2.2 h1.1 h1.2) ?_
 conv=>whnf
 repeat' first|((refine za.ret (zcP q r h1.1 h1.2 h2.1 h2.2) ?_);conv=>whnf)|((with_reducible apply XBr.mk') <;> (intro h;conv=>whnf))|fail
 ·rw [if_pos h];exact XOut.int rfl
 ·rw [if_neg (by simp [*]),if_pos h];exact XOut.int rfl
 ·rw [if_neg (by simp [*]),if_neg (by simp [*])];exact XOut.int rfl
theorem w4 (xs : List (Int × Int)) : ∀ i,i < xs.length -> minI xs i ∈ xs
 | 0,h=>zu h
 | i + 1,h=>by
   unfold minI minS
   split
   ·exact zu h
   ·exact w4 xs i (by omega)
theorem min_c (nl : Bool) (xs : List (Int × Int)) (h0 : 0 < xs.length) (h1 : xs.length <= 1000) (hq : ∀ x ∈ xs,QOk x) : Comp Tryz.prog 37 [.sl nl (xs.map qA),.fn 38 []] (qA (minI xs (xs.length - 1))):=by
 refine Comp.body (T:=tab) (res:=[.cell 4 82]) zb [] Tryz.func37 rfl (by kernel_rfl) Tryz.ntmps37 rfl (by simp only [List.length_cons,List.length_nil];decide) (by simp only [lowL,AV.low];rw [show lowL 0 (xs.map qA) = true from ja (fun _=>rfl) xs];rfl) ?_;conv=>whnf
 repeat' first|((with_reducible apply XBr.dec) <;> (intro h;first|(exfalso;omega)|((try simp only [List.length_map] at h);first|(exfalso;omega)|(conv=>whnf))))|(((with_reducible refine XIx.map ?_ ?_ ?_ ?_);omega;omega;(intro _;rfl));conv=>whnf)|fail
 refine Walk.loop zb [] (fun i : Nat=>1 <= i /\ i <= xs.length) (fun i=>[(0,.sl nl (xs.map qA)),(1,.fn 38 []),(4,.ptr 0 0),(5,.ptr 1 0),(6,natA i)])
  (fun i=>[.cells [.int .i64 0,.int .i64 0],.cells [.int .i64 (minI xs (i - 1)).1,.int .i64 (minI xs (i - 1)).2]]) (fun i=>xs.length - i) 1 ⟨by omega,by omega⟩ rfl ⟨rfl,rfl,rfl,rfl,rfl,trivial⟩ ?_
 rintro i ⟨i1,i2⟩
 have hmi : minI xs i = minS (minI xs (i - 1)) (xs.getD i default):=by
  obtain ⟨j,rfl⟩ : ∃ j,i = j + 1:=⟨i - 1,by omega⟩
  rfl
 have hmo : QOk (minI xs (i - 1)):=hq _ (w4 xs (i - 1) (by omega))
 have hfin : i = xs.length -> minI xs (xs.length - 1) = minI xs (i - 1):=fun h=>by rw [h]
 generalize minI xs (i - 1) = m at hmi hmo hfin
 have hxo : i < xs.length -> QOk (xs.getD i default):=fun h=>hq _ (zu h)
 conv=>whnf
 repeat' first|((with_reducible apply XBr.dec) <;> (intro h;first|(exfalso;omega)|((try simp only [List.length_map] at h);first|(exfalso;omega)|(conv=>whnf))))|fail
 ·have hcs : (cmpR (xs.getD i default) m < 0) ↔ ky m (xs.getD i default) = true:=by
   constructor
   ·intro h
    by_cases e : ky m (xs.getD i default) = true
    ·exact e
    ·exfalso;unfold cmpR at h;rw [if_neg e] at h;split at h <;> omega
   ·intro e;unfold cmpR;rw [if_pos e];decide
  apply Walk.drawX zb zk [] [] (hsK _) [_,_,_,_,_,_,_,_] (by kernel_rfl) rfl
  ·skip
   repeat' first|(((with_reducible refine XIx.nat ?_ ?_ ?_);omega;(intro _;rfl));conv=>whnf)|(with_reducible apply XAnd.mk)|((first|(with_reducible apply Chk.go)|(with_reducible apply ChkA.go));conv=>whnf)|(exact zg.mk rfl rfl)|(with_reducible exact trivial)|((refine za.ret (cmp_c (xs.getD i default) m (hxo (by omega)) hmo) ?_);conv=>whnf)|fail
  ·skip
   repeat' first|(with_reducible apply XAnd.mk)|((first|(with_reducible apply ChkF.go)|(with_reducible apply ChkB.go));conv=>whnf)|(with_reducible exact trivial)|fail
  ·conv=>whnf
   repeat' first|((with_reducible apply XBr.dec) <;> (intro h;first|(exfalso;omega)|((try simp only [List.length_map] at h);first|(exfalso;omega)|(conv=>whnf))))|((first|(with_reducible refine XInt.i64 (by omega) (by omega) ?_)|((with_reducible refine XIx.nat ?_ ?_ ?_);omega;(intro _;rfl)));conv=>whnf)|fail
   ·refine zh.go (i + 1) ⟨by omega,by omega⟩ (by omega) ?_ ⟨rfl,rfl,rfl,rfl,rfl,trivial⟩
    rw [Nat.add_sub_cancel,hmi];unfold minS;rw [if_pos (hcs.1 h)]
   ·refine zh.go (i + 1) ⟨by omega,by omega⟩ (by omega) ?_ ⟨rfl,rfl,rfl,rfl,rfl,trivial⟩
    rw [Nat.add_sub_cancel,hmi];unfold minS;rw [if_neg (fun e=>h (hcs.2 e))];rfl
 ·rw [hfin (by omega)]
  exact ⟨Froz.low rfl⟩
end GA
end
section
namespace GA
open Go Go.RowKit Go.Proofs
def ndR (parts s : List Int) (d : Int × Int) (i : Nat) : Bool:=decide (d.1 * (2 * s.getD i 0 + 1) < parts.getD i 0 * d.2) ||(decide (0 < s.getD i 0) && decide (parts.getD i 0 * d.2 < d.1 * (2 * s.getD i 0 - 1)))
def dvB (parts s : List Int) (d : Int × Int) : Bool:=(List.range 6).all fun i=>!ndR parts s d i
theorem fS {parts s : List Int} {d : Int × Int} : dvB parts s d = true ↔ ∀ i,i < 6 -> ndR parts s d i = false:=by
 unfold dvB;rw [List.all_eq_true]
 constructor
 ·intro h i hi;have:=h i (List.mem_range.2 hi);simpa using this
 ·intro h i hi;have:=h i (List.mem_range.1 hi);simpa using this
theorem vN {parts s : List Int} {d : Int × Int} {i : Nat} : ndR parts s d i = true ↔ d.1 * (2 * s.getD i 0 + 1) < parts.getD i 0 * d.2 \/ (0 < s.getD i 0 /\ parts.getD i 0 * d.2 < d.1 * (2 * s.getD i 0 - 1)):=by
 unfold ndR;rw [Bool.or_eq_true,Bool.and_eq_true,decide_eq_true_eq,decide_eq_true_eq,decide_eq_true_eq]
theorem dv_no {parts s : List Int} {d : Int × Int} {i : Nat} (hi : (i : Int) < 6) (h : ndR parts s d i = true) : dvB parts s d = false:=by
 cases e : dvB parts s d with
 | false=>rfl
 | true=>rw [fS.1 e i (by omega)] at h;cases h
theorem zbD (l : Ld) (nl : Bool) (s : List Int) (d : Int × Int) (o : LdOk l) (hs : fa 500 s) (h1 : 0 <= d.1 /\ d.1 <= 1000000) (h2 : 0 <= d.2 /\ d.2 <= 1000000) :
  Comp Tryz.prog 40 [ldA l,.sl nl (ints s),rtA d] (.bool (dvB (zG l) s d)):=by
 have pk:=yA o
 have hp:=fK l o
 generalize zG l = parts at pk hp
 refine Comp.body (T:=tab) (res:=[.tmp 6]) zb [] Tryz.func40 rfl (by kernel_rfl) Tryz.ntmps40 rfl (by simp only [List.length_cons,List.length_nil];decide) (by simp only [lowL,AV.low,ldL,lowI];rfl) ?_;conv=>whnf
 repeat' first|((refine za.ret hp ?_);conv=>whnf)|fail
 have pl:=pk.1
 have sl:=hs.1
 refine Walk.loop zb [] (fun i : Nat=>i <= 6 /\ ∀ j,j < i -> ndR parts s d j = false) (fun i=>[(1,.sl nl (ints s)),(5,.pim [.int .i64 d.1,.int .i64 d.2]),(11,.sl false (ints parts)),(12,.int .i64 6),(13,natA i)])
  (fun _=>[]) (fun i=>6 - i) 0 ⟨by omega,fun j h=>by omega⟩ rfl ⟨rfl,rfl,rfl,congrArg (fun n : Nat=>some (AV.int .i64 n)) (by rw [List.length_map,pl]),rfl,trivial⟩ ?_
 rintro i ⟨hi,hall⟩
 have pv:=pk.2 i
 have sv:=hs.2 i
 have pv2 : 0 <= parts.getD i default /\ parts.getD i default <= 100 * 9:=pv
 have sv2 : 0 <= s.getD i default /\ s.getD i default <= 500:=sv
 have m1:=jj pv2.1 pv2.2 h2.1 h2.2
 have m2:=jj h1.1 h1.2 (show 0 <= 2 * s.getD i default + 1 by omega) (show 2 * s.getD i default + 1 <= 1001 by omega)
 have m3 : 0 < s.getD i default -> 0 <= d.1 * (2 * s.getD i default - 1) /\ d.1 * (2 * s.getD i default - 1) <= 1000000 * 1001:=fun h=>jj h1.1 h1.2 (by omega) (by omega)
 conv=>whnf
 repeat' first|((with_reducible apply XBr.dec) <;> (intro h;first|(exfalso;omega)|((try simp only [List.length_map] at h);first|(exfalso;omega)|(conv=>whnf))))|(((with_reducible refine XIx.nat ?_ ?_ ?_);omega;(intro _;rfl));conv=>whnf)|fail
 ·refine Walk.norm zb [] [(1,.sl nl (ints s)),(5,.pim [.int .i64 d.1,.int .i64 d.2]),(7,natA i),(8,.int .i64 (parts.getD i default)),(9,.int .i64 (s.getD i default)),(11,.sl false (ints parts)),(12,.int .i64 6),(13,natA i)] ⟨rfl,rfl,rfl,rfl,rfl,rfl,rfl,rfl,trivial⟩ ?_
  conv=>whnf
  repeat' first|((first|(with_reducible apply XBr.tt)|(with_reducible apply XBr.ff));conv=>whnf)|((with_reducible apply XBr.dec) <;> (intro h;first|(exfalso;omega)|((try simp only [List.length_map] at h);first|(exfalso;omega)|(conv=>whnf))))|((with_reducible refine XInt.i64 (by omega) (by omega) ?_);conv=>whnf)|fail
  ·exact XOut.bool (dv_no (by assumption) (vN.2 (.inl h))).symm
  ·exact XOut.bool (dv_no (by assumption) (vN.2 (.inr ⟨by assumption,h⟩))).symm
  all_goals
   refine zh.go (i + 1) ⟨by omega,fun j hj=>?_⟩ (by omega) rfl ⟨rfl,rfl,rfl,rfl,rfl,trivial⟩
   by_cases e : j = i
   ·subst e
    cases e : ndR parts s d j with
    | false=>rfl
    | true =>
      exfalso
      rcases vN.1 e with e | ⟨e1,e2⟩
      ·exact absurd e (by assumption)
      ·first|exact absurd e2 (by assumption)|exact absurd e1 (by assumption)
   ·exact hall j (by omega)
 ·exact XOut.bool (fS.2 fun j hj=>hall j (by omega)).symm
end GA
end
section
namespace GA
open Go Go.RowKit Go.Proofs
def yl (parts s : List Int) : Nat -> List (Int × Int)
 | 0=>[]
 | k + 1=>if 0 < s.getD k 0 then yl parts s k ++ [(parts.getD k 0,2 * s.getD k 0 - 1)] else yl parts s k
theorem zbT (parts s : List Int) : ∀ k,(yl parts s k).length <= k
 | 0=>Nat.le_refl _
 | k + 1=>by
   have:=zbT parts s k
   unfold yl;split
   ·simp;omega
   ·omega
theorem kK {parts s : List Int} : ∀ {k : Nat} {q : Int × Int},q ∈ yl parts s k ↔ ∃ i,i < k /\ 0 < s.getD i 0 /\ q = lsQ parts s i
 | 0,q=>by simp [yl]
 | k + 1,q=>by
   have ih:=kK (parts:=parts) (s:=s) (k:=k) (q:=q)
   unfold yl
   constructor
   ·intro h
    split at h
    ·rename_i hk
     rcases List.mem_append.1 h with h | h
     ·obtain ⟨i,h1,h2,h3⟩:=ih.1 h;exact ⟨i,by omega,h2,h3⟩
     ·simp only [List.mem_singleton] at h;exact ⟨k,by omega,hk,h⟩
    ·obtain ⟨i,h1,h2,h3⟩:=ih.1 h;exact ⟨i,by omega,h2,h3⟩
   ·rintro ⟨i,h1,h2,h3⟩
    by_cases e : i = k
    ·subst e;rw [if_pos h2];exact List.mem_append.2 (.inr (by rw [h3];exact List.mem_singleton.2 rfl))
    ·split
     ·exact List.mem_append.2 (.inl (ih.2 ⟨i,by omega,h2,h3⟩))
     ·exact ih.2 ⟨i,by omega,h2,h3⟩
def yf (parts s : List Int) : Int × Int:=minI (yl parts s 6) ((yl parts s 6).length - 1)
def y6 (parts s : List Int) : Int × Int:=lowR ((yf parts s).1.toNat,(yf parts s).2.toNat)
def dvsR (parts s : List Int) : (Int × Int) × Int:=
 if yl parts s 6 = [] then ((0,0),6) else if 0 < (yf parts s).1 /\ dvB parts s (y6 parts s) = true then (y6 parts s,0) else ((0,0),6)
def k7 (l : Ld) (s : List Int) : (Int × Int) × Int:=if zI l s = 0 then dvsR (zG l) s else ((0,0),zI l s)
theorem gq {l : Ld} {s : List Int} (h : zI l s = 0) : LdOk l /\ fa 500 s:=by
 unfold zI at h
 split at h
 ·omega
 ·split at h
  ·omega
  ·split at h
   ·omega
   ·exact ⟨(zB l).1 (by omega),by omega,all500 (by assumption)⟩
theorem zb1 (l : Ld) (nl : Bool) (s : List Int) (o : LdW l) (hx : s.length <= 100000) : Comp Tryz.prog 10 [ldA l,.sl nl (ints s)] (.tup [rtA (k7 l s).1,.int .i64 (k7 l s).2]):=by
 refine Comp.body' (T:=tab) (res:=[.cell 4 33,.tmp 5]) zb [] Tryz.func10 rfl (by kernel_rfl) Tryz.ntmps10 rfl (by simp only [List.length_cons,List.length_nil];decide) (by simp only [lowL,AV.low,ldL,lowI];rfl) ?_;conv=>whnf
 refine za.ret (za0 l nl s o hx) ?_
 conv=>whnf
 repeat' first|((with_reducible apply XBr.bne) <;> (intro h;first|(exfalso;omega)|(conv=>whnf)))|fail
 ·unfold k7;rw [if_neg (by assumption)]
  exact ⟨Froz.low rfl⟩
 ·have h0:=h
  clear h
  obtain ⟨ok,so⟩:=gq h0
  have pk:=yA ok
  have hp:=fK l ok
  have hdv:=zbD l nl s (y6 (zG l) s) ok so
  unfold k7;rw [if_pos h0]
  generalize zG l = parts at pk hp hdv
  repeat' first|((refine za.ret hp ?_);conv=>whnf)|fail
  refine Walk.nilgr 7 82 rfl ?_
  have pl:=pk.1
  have sl:=so.1
  refine Walk.loop zb [] (fun k : Nat=>k <= 6) (fun k=>[(1,.sl nl (ints s)),(2,.pim (ldC l)),(4,.ptr 0 0),(5,.int .i64 0),(7,.gr 1 (yl parts s k).length),(21,.sl false (ints parts)),(22,.int .i64 6),(23,natA k)])
   (fun k=>[.cells [.int .i64 0,.int .i64 0],.grow 82 (yl parts s k).isEmpty ((yl parts s k).map qA)]) (fun k=>6 - k) 0 (by omega) rfl ⟨rfl,rfl,rfl,rfl,rfl,rfl,congrArg (fun n : Nat=>some (AV.int .i64 n)) (by rw [List.length_map,pl]),rfl,trivial⟩ ?_
  intro k hk
  have hul:=zbT parts s k
  have sv:=so.2 k
  have sv2 : 0 <= s.getD k default /\ s.getD k default <= 500:=sv
  have hnx : yl parts s (k + 1) = if 0 < s.getD k 0 then yl parts s k ++ [(parts.getD k 0,2 * s.getD k 0 - 1)] else yl parts s k:=rfl
  have hfin : k = 6 -> yl parts s 6 = yl parts s k:=fun h=>by rw [h]
  generalize yl parts s k = us at hul hnx hfin
  conv=>whnf
  repeat' first|((with_reducible apply XBr.dec) <;> (intro h;first|(exfalso;omega)|((try simp only [List.length_map] at h);first|(exfalso;omega)|(conv=>whnf))))|((with_reducible apply XBr.beq) <;> (intro h;first|(exfalso;omega)|(conv=>whnf)))|((with_reducible refine XInt.i64 (by omega) (by omega) ?_);conv=>whnf)|((with_reducible refine zj.mk ?_ ?_);(first | omega | rfl | decide|exact ⟨rfl,by decide,rfl⟩|exact zz _|exact zp _|exact zq _|(unfold Room;constructor <;> ((try simp) <;> omega))|exact ⟨rfl,by simp only [List.length_map],by unfold Room;constructor <;> ((try simp) <;> omega)⟩|exact ⟨by omega,by omega,by unfold Room;constructor <;> ((try simp) <;> omega)⟩);conv=>whnf)|((first|((with_reducible refine XIx.nat ?_ ?_ ?_);omega;(intro _;rfl))|(refine zj.mk (List.length_map _) ?_));conv=>whnf)|fail
  ·refine zh.go (k + 1) (by omega) (by omega) ?_ ⟨rfl,rfl,rfl,rfl,?_,rfl,rfl,rfl,trivial⟩
   ·rw [hnx,if_pos (show 0 < s.getD k 0 from h)];simp only [List.map_append,ya];rfl
   ·rw [hnx,if_pos (show 0 < s.getD k 0 from h)];simp only [List.length_append];rfl
  ·refine zh.go (k + 1) (by omega) (by omega) ?_ ⟨rfl,rfl,rfl,rfl,?_,rfl,rfl,rfl,trivial⟩
   ·rw [hnx,if_neg (show ¬ 0 < s.getD k 0 from h)]
   ·rw [hnx,if_neg (show ¬ 0 < s.getD k 0 from h)];rfl
  ·have hus : us = []:=List.length_eq_zero_iff.1 (by omega)
   have hr : dvsR parts s = ((0,0),6):=by unfold dvsR;rw [if_pos (by rw [hfin (by omega),hus])]
   rw [hr]
   exact ⟨Froz.low rfl⟩
  ·have hne : us.length ≠ 0:=by omega
   have hqo : ∀ x ∈ us,(0 <= x.1 /\ x.1 <= 900) /\ 1 <= x.2 /\ x.2 <= 1000:=by
    intro x hx
    rw [<- hfin (by omega)] at hx
    obtain ⟨i,_,h2,rfl⟩:=kK.1 hx
    have a:=pk.2 i
    have b:=so.2 i
    unfold lsQ;dsimp only;omega
   have hmm:=hqo _ (w4 us (us.length - 1) (by omega))
   have hmc:=min_c us.isEmpty us (by omega) (by omega) fun x hx=>by have:=hqo x hx;unfold QOk;omega
   have hlq : yf parts s = minI us (us.length - 1):=by unfold yf;rw [hfin (by omega)]
   have hr : dvsR parts s = if 0 < (yf parts s).1 /\ dvB parts s (y6 parts s) = true then (y6 parts s,0) else ((0,0),6):=by
    unfold dvsR;rw [if_neg (by rw [hfin (by omega)];intro e;rw [e] at hne;exact hne rfl)]
   rw [hr,hlq]
   have hld : y6 parts s = lowR ((minI us (us.length - 1)).1.toNat,(minI us (us.length - 1)).2.toNat):=by unfold y6;rw [hlq]
   generalize minI us (us.length - 1) = m at hmm hmc hld
   obtain ⟨m1,m2⟩:=m
   dsimp only at hmm hld ⊢
   obtain ⟨p,rfl⟩:=Int.eq_ofNat_of_zero_le hmm.1.1
   obtain ⟨q,rfl⟩:=Int.eq_ofNat_of_zero_le (show 0 <= m2 by omega)
   rw [Int.toNat_natCast,Int.toNat_natCast] at hld
   have hlc:=lowest_c p q (by omega) (by omega) (by omega)
   rw [<- hld] at hlc
   have hdb : (0 <= (y6 parts s).1 /\ (y6 parts s).1 <= 1000000) /\ 0 <= (y6 parts s).2 /\ (y6 parts s).2 <= 1000000:=by
    rw [hld];unfold lowR;dsimp only
    have h1:=Nat.div_le_self p (Nat.gcd p q)
    have h2:=Nat.div_le_self q (Nat.gcd p q)
    generalize p / Nat.gcd p q = a at h1
    generalize q / Nat.gcd p q = b at h2
    omega
   have hdc:=hdv hdb.1 hdb.2
   generalize y6 parts s = d at hlc hdc
   repeat' first|((first|(with_reducible apply XBr.tt)|(with_reducible apply XBr.ff));conv=>whnf)|((with_reducible apply XBr.dec) <;> (intro h;first|(exfalso;omega)|((try simp only [List.length_map] at h);first|(exfalso;omega)|(conv=>whnf))))|((first|(refine za.lend hmc (.cons (Froz.grow rfl (List.length_map _) (ja (fun _=>rfl) us)) (.cons (Froz.low rfl) .nil)) rfl ?_)|(refine za.ret hlc ?_)|(refine za.ret hdc ?_));conv=>whnf)|((with_reducible apply XBr.mk') <;> (intro h;conv=>whnf))|fail
   ·rw [if_pos ⟨by assumption,h⟩];exact ⟨Froz.low rfl⟩
   ·rw [if_neg (fun e=>by rw [h] at e;cases e.2)];exact ⟨Froz.low rfl⟩
   ·rw [if_neg (fun e=>h e.1)];exact ⟨Froz.low rfl⟩
end GA
end
section
namespace GA
open Go Go.RowKit Go.Proofs
theorem zdw (l : Ld) (nl : Bool) (xs : List Int) (o : LdW l) (hx : xs.length <= 100000) : Comp Tryz.prog 66 [ldA l,.sl nl (ints xs)] (.int .i64 (zI l xs)):=by
 have e1 : ((ints xs).length : Int) = xs.length:=by rw [List.length_map]
 refine Comp.body (T:=tab) (res:=[.tmp 4]) zb [] Tryz.func66 rfl (by kernel_rfl) Tryz.ntmps66 rfl (by simp only [List.length_cons,List.length_nil];decide) (by simp only [lowL,AV.low,ldL,lowI];rfl) ?_;conv=>whnf
 repeat' first|((with_reducible apply XBr.bne) <;> (intro h;first|(exfalso;omega)|(conv=>whnf)))|((refine za.ret (kQ l o) ?_);conv=>whnf)|fail
 ·refine XOut.int ?_;unfold zI;rw [if_pos (by assumption)]
 ·refine XOut.int ?_;unfold zI;rw [if_neg (by omega),if_pos (by omega)]
 have h6 : xs.length = 6:=by omega
 have h0 : zi l = 0:=by omega
 refine Walk.loop zb [] (fun k : Nat=>k <= 6 /\ ∀ j,j < k -> inB (xs.getD j default) 0 500 = true) (fun k=>[(1,.sl nl (ints xs)),(6,natA k)]) (fun _=>[]) (fun k=>6 - k) 0 ⟨by omega,by omega⟩ rfl ⟨rfl,rfl,trivial⟩ ?_
 rintro k ⟨hk,hks⟩
 conv=>whnf
 repeat' first|((with_reducible apply XBr.dec) <;> (intro h;first|(exfalso;omega)|((try simp only [List.length_map] at h);first|(exfalso;omega)|(conv=>whnf))))|((first|(with_reducible refine XInt.i64 (by omega) (by omega) ?_)|((with_reducible refine XIx.nat ?_ ?_ ?_);omega;(intro _;rfl)));conv=>whnf)|(refine za.ret (fx _ _ _) ?_;conv=>whnf)|((with_reducible apply XBr.mk') <;> (intro h;conv=>whnf))|fail
 ·refine XOut.int ?_
  unfold zI
  rw [if_neg (by omega),if_neg (by omega),if_pos]
  refine jz (d:=default) (i:=k) (by omega) ?_
  rw [ka,Bool.not_eq_true'] at h;exact h
 ·refine zh.go (k + 1) ⟨by omega,fun j hj=>?_⟩ (by omega) rfl ⟨rfl,rfl,trivial⟩
  by_cases e : j = k
  ·subst e;rw [ka,Bool.not_eq_false'] at h;exact h
  ·exact hks j (by omega)
 ·refine XOut.int ?_
  unfold zI
  rw [if_neg (by omega),if_neg (by omega),if_neg]
  rw [qI (d:=default) fun j hj=>hks j (by omega)];simp
theorem qD (l : Ld) (nl : Bool) (s : List Int) (d : Int × Int) (o : LdOk l) (hs : fa 500 s) (h1 : 0 <= d.1 /\ d.1 <= 1000000) (h2 : 0 <= d.2 /\ d.2 <= 1000000) :
  Comp Tryz.prog 70 [ldA l,.sl nl (ints s),.int .i64 d.1,.int .i64 d.2] (.bool (dvB (zG l) s d)):=by
 obtain ⟨d1,d2⟩:=d
 dsimp only at h1 h2 ⊢
 have hp:=wU l o
 have pk:=yA o
 generalize zG l = parts at hp pk
 have pl:=pk.1
 have sl:=hs.1
 refine Comp.body (T:=tab) (res:=[.tmp 8]) zb [] Tryz.func70 rfl (by kernel_rfl) Tryz.ntmps70 rfl (by simp only [List.length_cons,List.length_nil];decide) (by simp only [lowL,AV.low,ldL,lowI];rfl) ?_;conv=>whnf
 repeat' first|((refine za.ret hp ?_);conv=>whnf)|fail
 refine Walk.loop zb [] (fun k : Nat=>k <= 6 /\ ∀ j,j < k -> ndR parts s (d1,d2) j = false) (fun k=>[(1,.sl nl (ints s)),(2,.int .i64 d1),(3,.int .i64 d2),(9,.sl false (ints parts)),(10,natA k)]) (fun _=>[]) (fun k=>6 - k) 0 ⟨by omega,by omega⟩ rfl ⟨rfl,rfl,rfl,rfl,rfl,trivial⟩ ?_
 rintro k ⟨hk,hks⟩
 have a:=pk.2 k
 have b:=hs.2 k
 have a2 : 0 <= parts.getD k default /\ parts.getD k default <= 900:=by have : 0 <= parts.getD k default /\ parts.getD k default <= 100 * (9 : Nat):=a;omega
 have b2 : 0 <= s.getD k default /\ s.getD k default <= 500:=b
 have m1 : 0 <= parts.getD k default * d2 /\ parts.getD k default * d2 <= 900 * 1000000:=jj a2.1 a2.2 h2.1 h2.2
 have m2 : 0 <= d1 * (2 * s.getD k default + 1) /\ d1 * (2 * s.getD k default + 1) <= 1000000 * 1001:=jj h1.1 h1.2 (by omega) (by omega)
 have m3 : 0 < s.getD k default -> 0 <= d1 * (2 * s.getD k default - 1) /\ d1 * (2 * s.getD k default - 1) <= 1000000 * 1001:=fun h=>jj h1.1 h1.2 (by omega) (by omega)
 have hN : ndR parts s (d1,d2) k = true ↔ d1 * (2 * s.getD k default + 1) < parts.getD k default * d2 \/ (0 < s.getD k default /\ parts.getD k default * d2 < d1 * (2 * s.getD k default - 1)):=vN
 conv=>whnf
 repeat' first|((with_reducible apply XBr.dec) <;> (intro h;first|(exfalso;omega)|((try simp only [List.length_map] at h);first|(exfalso;omega)|(conv=>whnf))))|fail
 ·by_cases hc : 0 < s.getD k default
  ·have m4:=m3 hc
   apply Walk.drawX zb zk [] [] (hsK _) [_,_,_,_,_,.bool true,_,_,_,_,_,_,_,_,_,_,_,_,_,_,_,.bool (decide (parts.getD k default * d2 < d1 * (2 * s.getD k default - 1)))] (by kernel_rfl) rfl
   ·skip
    repeat' first|((first|(with_reducible apply XBr.tt)|(with_reducible refine XInt.i64 (by omega) (by omega) ?_)|((with_reducible refine XIx.nat ?_ ?_ ?_);omega;(intro _;rfl)));conv=>whnf)|(with_reducible apply XAnd.mk)|((first|(with_reducible apply Chk.go)|(with_reducible apply ChkA.go));conv=>whnf)|(exact zg.mk rfl rfl)|(with_reducible exact trivial)|(exact zg.mk (congrArg AV.bool (decide_eq_true hc)) rfl)|fail
   ·skip
    repeat' first|(with_reducible apply XAnd.mk)|((first|(with_reducible apply ChkF.go)|(with_reducible apply ChkB.go));conv=>whnf)|(with_reducible exact trivial)|fail
   conv=>whnf
   repeat' first|((with_reducible apply XBr.dec) <;> (intro h;first|(exfalso;omega)|((try simp only [List.length_map] at h);first|(exfalso;omega)|(conv=>whnf))))|fail
   ·exact XOut.bool (dv_no (i:=k) (by omega) (hN.2 (.inr ⟨hc,h⟩))).symm
   ·rename_i hx
    apply Walk.drawX zb zk [] [] (hsK _) [_,_,_,_,_,_,_,_,_,_,_,_,_,_,_] (by kernel_rfl) rfl
    ·skip
     repeat' first|((first|(with_reducible refine XInt.i64 (by omega) (by omega) ?_)|((with_reducible refine XIx.nat ?_ ?_ ?_);omega;(intro _;rfl)));conv=>whnf)|(with_reducible apply XAnd.mk)|((first|(with_reducible apply Chk.go)|(with_reducible apply ChkA.go));conv=>whnf)|(exact zg.mk rfl rfl)|(with_reducible exact trivial)|fail
    ·skip
     repeat' first|(with_reducible apply XAnd.mk)|((first|(with_reducible apply ChkF.go)|(with_reducible apply ChkB.go));conv=>whnf)|(with_reducible exact trivial)|fail
    conv=>whnf
    repeat' first|((with_reducible apply XBr.dec) <;> (intro h;first|(exfalso;omega)|((try simp only [List.length_map] at h);first|(exfalso;omega)|(conv=>whnf))))|((with_reducible refine XInt.i64 (by omega) (by omega) ?_);conv=>whnf)|fail
    ·exact XOut.bool (dv_no (i:=k) (by omega) (hN.2 (.inl h))).symm
    ·refine zh.go (k + 1) ⟨by omega,fun j hj=>?_⟩ (by omega) rfl ⟨rfl,rfl,rfl,rfl,rfl,trivial⟩
     by_cases e : j = k
     ·subst e
      cases hr : ndR parts s (d1,d2) j
      ·rfl
      ·rcases hN.1 hr with hr | hr
       ·exact absurd hr h
       ·exact absurd hr.2 (by assumption)
     ·exact hks j (by omega)
  ·apply Walk.drawX zb zk [] [] (hsK _) [_,_,_,_,_,.bool false,_,_,_,_,_,_,_,_,_,_,_,_,_,_,_,.bool false] (by kernel_rfl) rfl
   ·skip
    repeat' first|((first|(with_reducible apply XBr.ff)|((with_reducible refine XIx.nat ?_ ?_ ?_);omega;(intro _;rfl)));conv=>whnf)|(with_reducible apply XAnd.mk)|((first|(with_reducible apply Chk.go)|(with_reducible apply ChkA.go));conv=>whnf)|(exact zg.mk rfl rfl)|(with_reducible exact trivial)|(exact zg.mk (congrArg AV.bool (decide_eq_false hc)) rfl)|fail
   ·skip
    repeat' first|(with_reducible apply XAnd.mk)|((first|(with_reducible apply ChkF.go)|(with_reducible apply ChkB.go));conv=>whnf)|(with_reducible exact trivial)|fail
   conv=>whnf
   repeat' first|((with_reducible apply XBr.ff);conv=>whnf)|fail
   apply Walk.drawX zb zk [] [] (hsK _) [_,_,_,_,_,_,_,_,_,_,_,_,_,_,_] (by kernel_rfl) rfl
   ·skip
    repeat' first|((first|(with_reducible refine XInt.i64 (by omega) (by omega) ?_)|((with_reducible refine XIx.nat ?_ ?_ ?_);omega;(intro _;rfl)));conv=>whnf)|(with_reducible apply XAnd.mk)|((first|(with_reducible apply Chk.go)|(with_reducible apply ChkA.go));conv=>whnf)|(exact zg.mk rfl rfl)|(with_reducible exact trivial)|fail
   ·skip
    repeat' first|(with_reducible apply XAnd.mk)|((first|(with_reducible apply ChkF.go)|(with_reducible apply ChkB.go));conv=>whnf)|(with_reducible exact trivial)|fail
   conv=>whnf
   repeat' first|((with_reducible apply XBr.dec) <;> (intro h;first|(exfalso;omega)|((try simp only [List.length_map] at h);first|(exfalso;omega)|(conv=>whnf))))|((with_reducible refine XInt.i64 (by omega) (by omega) ?_);conv=>whnf)|fail
   ·exact XOut.bool (dv_no (i:=k) (by omega) (hN.2 (.inl h))).symm
   ·refine zh.go (k + 1) ⟨by omega,fun j hj=>?_⟩ (by omega) rfl ⟨rfl,rfl,rfl,rfl,rfl,trivial⟩
    by_cases e : j = k
    ·subst e
     cases hr : ndR parts s (d1,d2) j
     ·rfl
     ·rcases hN.1 hr with hr | hr
      ·exact absurd hr h
      ·exact absurd hr.1 hc
    ·exact hks j (by omega)
 ·refine XOut.bool ?_
  exact (fS.2 fun j hj=>hks j (by omega)).symm
end GA
end
section
namespace GA
open Go Go.RowKit Go.Proofs
theorem dv_fle {parts s : List Int} {d : Int × Int} : dvB parts s d = true ↔ ∀ i,i < 6 -> Fle (nxQ parts s i) d /\ (0 < s.getD i 0 -> Fle d (lsQ parts s i)):=by
 rw [fS]
 constructor
 ·intro h i hi
  have h1:=h i hi
  have h2 : ¬ ndR parts s d i = true:=by rw [h1];simp
  rw [vN] at h2
  unfold Fle nxQ lsQ;dsimp only
  exact ⟨by rcases Int.lt_or_le (d.1 * (2 * s.getD i 0 + 1)) (parts.getD i 0 * d.2) with e | e;exact absurd (.inl e) h2;exact e,
   fun hp=>by rcases Int.lt_or_le (parts.getD i 0 * d.2) (d.1 * (2 * s.getD i 0 - 1)) with e | e;exact absurd (.inr ⟨hp,e⟩) h2;exact e⟩
 ·intro h i hi
  obtain ⟨h1,h2⟩:=h i hi
  cases e : ndR parts s d i with
  | false=>rfl
  | true =>
    exfalso
    unfold Fle nxQ at h1;unfold Fle lsQ at h2;dsimp only at h1 h2
    rcases vN.1 e with e | ⟨e1,e2⟩
    ·omega
    ·have:=h2 e1;omega
theorem low_eq (p q : Nat) (hq : 0 < q) : Fle (p,q) (lowR (p,q)) /\ Fle (lowR (p,q)) (p,q) /\ 0 < (lowR (p,q)).2 /\ (0 < p -> 0 < (lowR (p,q)).1):=by
 have hg : 0 < Nat.gcd p q:=Nat.gcd_pos_of_pos_right _ hq
 obtain ⟨a,ha⟩:=Nat.gcd_dvd_left p q
 obtain ⟨b,hb⟩:=Nat.gcd_dvd_right p q
 have e1 : p / Nat.gcd p q = a:=Nat.div_eq_of_eq_mul_right hg ha
 have e2 : q / Nat.gcd p q = b:=Nat.div_eq_of_eq_mul_right hg hb
 unfold lowR Fle;dsimp only
 rw [e1,e2]
 have hx : (p : Int) * b = a * q:=by
  have : p * b = a * q:=by
   calc p * b = (Nat.gcd p q * a) * b:=by rw [<- ha]
    _ = a * (Nat.gcd p q * b):=by rw [Nat.mul_comm (Nat.gcd p q) a,Nat.mul_assoc]
    _ = a * q:=by rw [<- hb]
  exact_mod_cast this
 refine ⟨by omega,by omega,?_,fun hp=>?_⟩
 ·have : b ≠ 0:=fun e=>by rw [e,Nat.mul_zero] at hb;omega
  omega
 ·have : a ≠ 0:=fun e=>by rw [e,Nat.mul_zero] at ha;omega
  omega
theorem minI_le {xs : List (Int × Int)} (hd : ∀ x ∈ xs,0 < x.2) : ∀ i,i < xs.length -> ∀ j,j <= i -> Fle (minI xs i) (xs.getD j default)
 | 0,h,j,hj=>by
   obtain rfl : j = 0:=by omega
   exact Fle.refl _
 | i + 1,h,j,hj=>by
   have ih:=minI_le hd i (by omega)
   have hm:=hd _ (w4 xs i (by omega))
   have hx:=hd _ (zu (d:=default) h)
   unfold minI minS
   split
   ·rename_i e
    have hle : Fle (xs.getD (i + 1) default) (minI xs i):=by
     rcases Fle.total (xs.getD (i + 1) default) (minI xs i) with h | h
     ·exact h
     ·exact absurd h (zbY.1 e)
    by_cases hji : j = i + 1
    ·subst hji;exact Fle.refl _
    ·exact hle.trans (ih j (by omega)) (Int.le_of_lt hx) hm (Int.le_of_lt (hd _ (zu (by omega))))
   ·rename_i e
    by_cases hji : j = i + 1
    ·subst hji
     by_cases hf : Fle (minI xs i) (xs.getD (i + 1) default)
     ·exact hf
     ·exact absurd (zbY.2 hf) e
    ·exact ih j (by omega)
theorem zdt {parts s : List Int} (hne : ∃ i,i < 6 /\ 0 < s.getD i 0) :
  yl parts s 6 ≠ [] /\ ∃ i,i < 6 /\ 0 < s.getD i 0 /\ yf parts s = lsQ parts s i /\ ∀ j,j < 6 -> 0 < s.getD j 0 -> Fle (yf parts s) (lsQ parts s j):=by
 obtain ⟨i0,hi0,hs0⟩:=hne
 have hm0 : lsQ parts s i0 ∈ yl parts s 6:=kK.2 ⟨i0,hi0,hs0,rfl⟩
 have hl : 0 < (yl parts s 6).length:=List.length_pos_iff.2 (List.ne_nil_of_mem hm0)
 have hd : ∀ x ∈ yl parts s 6,0 < x.2:=fun x hx=>by
  obtain ⟨i,_,h2,rfl⟩:=kK.1 hx
  unfold lsQ;dsimp only;omega
 refine ⟨List.ne_nil_of_mem hm0,?_⟩
 obtain ⟨i,h1,h2,h3⟩:=kK.1 (w4 (yl parts s 6) ((yl parts s 6).length - 1) (by omega))
 refine ⟨i,h1,h2,h3,fun j hj hs=>?_⟩
 obtain ⟨k,hk,e⟩:=List.mem_iff_getElem.1 (kK.2 ⟨j,hj,hs,rfl⟩ : lsQ parts s j ∈ yl parts s 6)
 have:=minI_le hd ((yl parts s 6).length - 1) (by omega) k (by omega)
 rw [List.getD_eq_getElem?_getD,List.getElem?_eq_getElem hk,Option.getD_some,e] at this
 exact this
end GA
end
section
namespace GA
open Go Go.RowKit Go.Proofs
def vz (d : Int × Int) : Bool:=inB d.1 1 100000 && inB d.2 1 100000
theorem wn {d : Int × Int} : vz d = true ↔ (1 <= d.1 /\ d.1 <= 100000) /\ 1 <= d.2 /\ d.2 <= 100000:=by
 unfold vz;rw [Bool.and_eq_true,zL,zL]
def divE (l : Ld) (s : List Int) (d : Int × Int) : Bool × Int:=if zI l s ≠ 0 then (false,zI l s) else if vz d = false then (false,3) else (dvB (zG l) s d,0)
theorem zeA (l : Ld) (nl : Bool) (s : List Int) (d : Int × Int) (o : LdW l) (hx : s.length <= 100000) : Comp Tryz.prog 69 [ldA l,.sl nl (ints s),rtA d] (.tup [.bool (divE l s d).1,.int .i64 (divE l s d).2]):=by
 refine Comp.body' (T:=tab) (res:=[.tmp 6,.tmp 7]) zb [] Tryz.func69 rfl (by kernel_rfl) Tryz.ntmps69 rfl (by simp only [List.length_cons,List.length_nil];decide) (by simp only [lowL,AV.low,ldL,lowI];rfl) ?_;conv=>whnf
 refine za.ret (za0 l nl s o hx) ?_
 conv=>whnf
 repeat' first|((first|(with_reducible apply XBr.tt)|(with_reducible apply XBr.ff));conv=>whnf)|(with_reducible apply XBr.not)|((with_reducible apply XBr.bne) <;> (intro h;first|(exfalso;omega)|(conv=>whnf)))|(refine za.ret (in_c _ _ _) ?_;conv=>whnf)|((with_reducible apply XBr.mk') <;> (intro h;conv=>whnf))|fail
 ·unfold divE;rw [if_pos (by assumption)];exact ⟨Froz.low rfl⟩
 ·obtain ⟨ok,so⟩:=gq (by assumption)
  have hr : vz d = true:=by unfold vz;simp [*]
  have hr2:=wn.1 hr
  refine za.ret (zbD l nl s d ok so (by omega) (by omega)) ?_
  conv=>whnf
  skip
  all_goals (unfold divE;rw [if_neg (by omega),if_neg (by rw [hr];simp)];exact ⟨Froz.low rfl⟩)
 ·have hr : vz d = false:=by unfold vz;simp [*]
  unfold divE;rw [if_neg (by omega),if_pos hr];exact ⟨Froz.low rfl⟩
 ·have hr : vz d = false:=by unfold vz;simp [*]
  unfold divE;rw [if_neg (by omega),if_pos hr];exact ⟨Froz.low rfl⟩
theorem low_step {n d k : Nat} (hk : 1 < k) (hn : 0 < n) (hg : Nat.gcd n d <= k) (h1 : k ∣ n) (h2 : k ∣ d) : lowR (n / k,d / k) = lowR (n,d) /\ Nat.gcd (n / k) (d / k) = 1 /\ 0 < n / k:=by
 have hp : 0 < Nat.gcd n d:=Nat.gcd_pos_of_pos_left _ hn
 have he : Nat.gcd n d = k:=Nat.le_antisymm hg (Nat.le_of_dvd hp (Nat.dvd_gcd h1 h2))
 have h3 : Nat.gcd (n / k) (d / k) = 1:=by rw [Nat.gcd_div h1 h2,he];exact Nat.div_self (by omega)
 refine ⟨?_,h3,Nat.div_pos (Nat.le_of_dvd hn h1) (by omega)⟩
 unfold lowR;dsimp only
 rw [h3,he,Nat.div_one,Nat.div_one]
theorem low_one {n d : Nat} (hn : 0 < n) (hg : Nat.gcd n d <= 1) : lowR (n,d) = ((n : Int),(d : Int)):=by
 have hp : 0 < Nat.gcd n d:=Nat.gcd_pos_of_pos_left _ hn
 have he : Nat.gcd n d = 1:=by omega
 unfold lowR;dsimp only
 rw [he,Nat.div_one,Nat.div_one]
theorem low_same {p q p' q' : Nat} (h : p * q' = p' * q) (hp : 0 < p) (hp' : 0 < p') : lowR (p,q) = lowR (p',q'):=by
 have hg : 0 < Nat.gcd p q:=Nat.gcd_pos_of_pos_left _ hp
 have hg' : 0 < Nat.gcd p' q':=Nat.gcd_pos_of_pos_left _ hp'
 have e : Nat.gcd p q * p' = p * Nat.gcd p' q':=by
  rw [<- Nat.gcd_mul_right,<- Nat.gcd_mul_left,Nat.mul_comm q p',<- h]
 obtain ⟨a,ha⟩:=Nat.gcd_dvd_left p q
 obtain ⟨b,hb⟩:=Nat.gcd_dvd_right p q
 obtain ⟨a',ha'⟩:=Nat.gcd_dvd_left p' q'
 obtain ⟨b',hb'⟩:=Nat.gcd_dvd_right p' q'
 unfold lowR;dsimp only
 rw [Nat.div_eq_of_eq_mul_right hg ha,Nat.div_eq_of_eq_mul_right hg hb,Nat.div_eq_of_eq_mul_right hg' ha',Nat.div_eq_of_eq_mul_right hg' hb']
 generalize Nat.gcd p q = g at *
 generalize Nat.gcd p' q' = g' at *
 have e1 : a = a':=by
  rw [ha,ha'] at e
  have : (g * g') * a' = (g * g') * a:=by rw [Nat.mul_assoc,e,Nat.mul_assoc,Nat.mul_assoc,Nat.mul_comm a g']
  exact (Nat.eq_of_mul_eq_mul_left (Nat.mul_pos hg hg') this).symm
 subst e1
 have e2 : b = b':=by
  have ha0 : 0 < a:=Nat.pos_of_ne_zero fun z=>by rw [z,Nat.mul_zero] at ha;omega
  rw [hb,hb',ha,ha'] at h
  have : (g * g' * a) * b' = (g * g' * a) * b:=by
   calc (g * g' * a) * b' = g * a * (g' * b'):=by simp only [Nat.mul_assoc,Nat.mul_comm,Nat.mul_left_comm]
    _ = g' * a * (g * b):=h
    _ = (g * g' * a) * b:=by simp only [Nat.mul_assoc,Nat.mul_comm,Nat.mul_left_comm]
  exact (Nat.eq_of_mul_eq_mul_left (Nat.mul_pos (Nat.mul_pos hg hg') ha0) this).symm
 rw [e2]
def ElR (parts s : List Int) (i : Nat) : Prop:=0 < s.getD i 0 /\ 0 < parts.getD i 0 /\ dvB parts s (lsQ parts s i) = true
def DvI (parts s : List Int) (k : Nat) (q : Int × Int) : Prop:=(q = (0,1) /\ ∀ i,i < k -> ¬ ElR parts s i) \/ ∃ i,i < k /\ ElR parts s i /\ q = lsQ parts s i
theorem Fle.anti_dv {parts s : List Int} {a b : Int × Int} (hs : ∀ i,0 <= s.getD i 0) (h : dvB parts s a = true) (h1 : Fle a b) (h2 : Fle b a) (ha : 0 < a.2) (hb : 0 < b.2) : dvB parts s b = true:=by
 rw [dv_fle] at h ⊢
 intro i hi
 obtain ⟨x,y⟩:=h i hi
 exact ⟨x.trans h1 (by have:=hs i;show 0 <= 2 * s.getD i 0 + 1;omega) ha (Int.le_of_lt hb),fun hp=>h2.trans (y hp) (Int.le_of_lt hb) ha (by show 0 <= 2 * s.getD i 0 - 1;omega)⟩
theorem gf {q : Int × Int} (h1 : 0 <= q.1) (h2 : 0 <= q.2) : ((q.1.toNat : Int),(q.2.toNat : Int)) = q:=by
 rw [Int.toNat_of_nonneg h1,Int.toNat_of_nonneg h2]
theorem dvs_ref {parts s : List Int} {q : Int × Int} (hs : ∀ i,0 <= s.getD i 0) (h : DvI parts s 6 q) :
  dvsR parts s = if q.1 = 0 then ((0,0),6) else (lowR (q.1.toNat,q.2.toNat),0):=by
 rcases h with ⟨rfl,hn⟩ | ⟨i,hi,⟨e1,e2,e3⟩,rfl⟩
 ·rw [if_pos rfl]
  unfold dvsR
  by_cases h0 : yl parts s 6 = []
  ·rw [if_pos h0]
  ·rw [if_neg h0]
   by_cases h1 : 0 < (yf parts s).1 /\ dvB parts s (y6 parts s) = true
   ·exfalso
    have hne : ∃ i,i < 6 /\ 0 < s.getD i 0:=by
     obtain ⟨q,hq⟩:=List.exists_mem_of_ne_nil _ h0
     obtain ⟨i,h1,h2,_⟩:=kK.1 hq
     exact ⟨i,h1,h2⟩
    obtain ⟨_,i,hi,hsi,hq,_⟩:=zdt (parts:=parts) hne
    have hden : 0 < (yf parts s).2:=by rw [hq];unfold lsQ;dsimp only;omega
    have hL:=low_eq (yf parts s).1.toNat (yf parts s).2.toNat (by omega)
    rw [gf (Int.le_of_lt h1.1) (Int.le_of_lt hden)] at hL
    refine hn i hi ⟨hsi,by have:=h1.1;rw [hq] at this;exact this,?_⟩
    rw [<- hq]
    exact Fle.anti_dv hs h1.2 hL.2.1 hL.1 hL.2.2.1 hden
   ·rw [if_neg h1]
 ·rw [if_neg (by unfold lsQ;dsimp only;omega)]
  obtain ⟨h0,j,hj,hsj,hq,hmin⟩:=zdt (parts:=parts) ⟨i,hi,e1⟩
  have hden : 0 < (yf parts s).2:=by rw [hq];unfold lsQ;dsimp only;omega
  have hdi : 0 < (lsQ parts s i).2:=by unfold lsQ;dsimp only;omega
  have hni : 0 < (lsQ parts s i).1:=e2
  have f1 : Fle (yf parts s) (lsQ parts s i):=hmin i hi e1
  have f2 : Fle (lsQ parts s i) (yf parts s):=by rw [hq];exact (dv_fle.1 e3 j hj).2 hsj
  have hnum : 0 < (yf parts s).1:=f2.pos hni hden (Int.le_of_lt hdi)
  have hL:=low_eq (yf parts s).1.toNat (yf parts s).2.toNat (by omega)
  rw [gf (Int.le_of_lt hnum) (Int.le_of_lt hden)] at hL
  have hdv : dvB parts s (y6 parts s) = true:=Fle.anti_dv hs (Fle.anti_dv hs e3 f2 f1 hdi hden) hL.1 hL.2.1 hden hL.2.2.1
  unfold dvsR
  rw [if_neg h0,if_pos ⟨hnum,hdv⟩]
  unfold y6
  rw [low_same (p:=(yf parts s).1.toNat) (q:=(yf parts s).2.toNat) (p':=(lsQ parts s i).1.toNat) (q':=(lsQ parts s i).2.toNat) ?_ (by omega) (by omega)]
  have g1:=gf (Int.le_of_lt hnum) (Int.le_of_lt hden)
  have g2:=gf (Int.le_of_lt hni) (Int.le_of_lt hdi)
  unfold Fle at f1 f2
  have : (yf parts s).1 * (lsQ parts s i).2 = (lsQ parts s i).1 * (yf parts s).2:=Int.le_antisymm f1 f2
  rw [<- Int.toNat_of_nonneg (Int.le_of_lt hnum),<- Int.toNat_of_nonneg (Int.le_of_lt hden),<- Int.toNat_of_nonneg (Int.le_of_lt hni),<- Int.toNat_of_nonneg (Int.le_of_lt hdi)] at this
  exact_mod_cast this
end GA
end
section
namespace GA
open Go Go.RowKit Go.Proofs
theorem DvI.succ_no {parts s : List Int} {k : Nat} {q : Int × Int} (h : DvI parts s k q) (hn : ¬ ElR parts s k) : DvI parts s (k + 1) q:=by
 rcases h with ⟨e,h⟩ | ⟨i,h1,h2,h3⟩
 ·refine .inl ⟨e,fun i hi=>?_⟩
  by_cases e : i = k
  ·subst e;exact hn
  ·exact h i (by omega)
 ·exact .inr ⟨i,by omega,h2,h3⟩
theorem DvI.keep {parts s : List Int} {k : Nat} {q : Int × Int} (h : DvI parts s k q) (hq : q.1 ≠ 0) : DvI parts s (k + 1) q:=by
 rcases h with ⟨e,h⟩ | ⟨i,h1,h2,h3⟩
 ·rw [e] at hq;exact absurd rfl hq
 ·exact .inr ⟨i,by omega,h2,h3⟩
theorem tm0 {n k : Nat} (h : (n : Int).tmod k = 0) : k ∣ n:=Nat.dvd_of_mod_eq_zero (by have : ((n % k : Nat) : Int) = 0:=h;omega)
theorem tm1 {n k : Nat} (h : (n : Int).tmod k ≠ 0) : ¬ k ∣ n:=fun e=>h (by
 have : ((n % k : Nat) : Int) = 0:=by rw [Nat.mod_eq_zero_of_dvd e];rfl
 exact this)
theorem zdI {n d k : Nat} (h : Nat.gcd n d <= k) (hn : ¬ (k ∣ n /\ k ∣ d)) : Nat.gcd n d <= k - 1:=by
 rcases Nat.lt_or_ge (Nat.gcd n d) k with e | e
 ·omega
 ·have e : Nat.gcd n d = k:=by omega
  exact absurd ⟨e ▸ Nat.gcd_dvd_left n d,e ▸ Nat.gcd_dvd_right n d⟩ hn
def outDv (parts s : List Int) : AV:=.tup [.int .i64 (dvsR parts s).1.1,.int .i64 (dvsR parts s).1.2,.int .i64 (dvsR parts s).2]
theorem zdi (l : Ld) (nl : Bool) (s : List Int) (o : LdOk l) (hs : fa 500 s) :
  Comp Tryz.prog 68 [ldA l,.sl nl (ints s)] (outDv (zG l) s):=by
 have hp:=wU l o
 have pk:=yA o
 have hdv:=fun d h1 h2=>qD l nl s d o hs h1 h2
 generalize zG l = parts at hp pk hdv ⊢
 have pl:=pk.1
 have sl:=hs.1
 have hs0 : ∀ i,0 <= s.getD i 0:=fun i=>(hs.2 i).1
 unfold outDv
 refine Comp.body' (T:=tab) (res:=[.tmp 4,.tmp 5,.tmp 6]) zb [] Tryz.func68 rfl (by kernel_rfl) Tryz.ntmps68 rfl (by simp only [List.length_cons,List.length_nil];decide) (by simp only [lowL,AV.low,ldL,lowI];rfl) ?_;conv=>whnf
 repeat' first|((refine za.ret hp ?_);conv=>whnf)|fail
 refine Walk.loop zb [] (fun g : Nat × Int × Int=>g.1 <= 6 /\ DvI parts s g.1 g.2 /\ (0 <= g.2.1 /\ g.2.1 <= 900) /\ 0 < g.2.2 /\ g.2.2 <= 1001) (fun g=>[(1,.sl nl (ints s)),(2,.pim (ldC l)),(4,.int .i64 0),(5,.int .i64 0),(6,.int .i64 0),(7,.sl false (ints parts)),(8,.int .i64 g.2.1),(9,.int .i64 g.2.2),(10,natA g.1)]) (fun _=>[]) (fun g=>6 - g.1) (0,0,1) ⟨by dsimp only;omega,.inl ⟨rfl,fun i hi=>by dsimp only at hi;omega⟩,by dsimp only;omega,by dsimp only;omega⟩ rfl ⟨rfl,rfl,rfl,rfl,rfl,rfl,rfl,rfl,rfl,trivial⟩ ?_
 rintro ⟨k,n,m⟩ ⟨hk,hi,hn,hm⟩
 dsimp only at hk hi hn hm ⊢
 have a:=pk.2 k
 have b:=hs.2 k
 have a2 : 0 <= parts.getD k default /\ parts.getD k default <= 900:=by have : 0 <= parts.getD k default /\ parts.getD k default <= 100 * (9 : Nat):=a;omega
 have b2 : 0 <= s.getD k default /\ s.getD k default <= 500:=b
 conv=>whnf
 repeat' first|((first|(with_reducible apply XBr.tt)|(with_reducible apply XBr.ff));conv=>whnf)|((with_reducible apply XBr.dec) <;> (intro h;first|(exfalso;omega)|((try simp only [List.length_map] at h);first|(exfalso;omega)|(conv=>whnf))))|((with_reducible apply XBr.beq) <;> (intro h;first|(exfalso;omega)|(conv=>whnf)))|((first|(with_reducible refine XInt.i64 (by omega) (by omega) ?_)|((with_reducible refine XIx.nat ?_ ?_ ?_);omega;(intro _;rfl)));conv=>whnf)|fail
 ·exact zh.go (k + 1,n,m) ⟨by dsimp only;omega,hi.succ_no fun e=>by have:=e.1;have h : s.getD k 0 = 0:=h;omega,hn,hm⟩ (by dsimp only;omega) rfl ⟨rfl,rfl,rfl,rfl,rfl,rfl,rfl,rfl,rfl,trivial⟩
 ·exact zh.go (k + 1,n,m) ⟨by dsimp only;omega,hi.succ_no fun e=>by have:=e.2.1;have h : parts.getD k 0 = 0:=h;omega,hn,hm⟩ (by dsimp only;omega) rfl ⟨rfl,rfl,rfl,rfl,rfl,rfl,rfl,rfl,rfl,trivial⟩
 ·have hpk : 0 < parts.getD k default:=by omega
  have hsk : 0 < s.getD k default:=by omega
  have hdq:=hdv (lsQ parts s k) (by show 0 <= parts.getD k default /\ parts.getD k default <= 1000000;omega) (by show 0 <= 2 * s.getD k default - 1 /\ 2 * s.getD k default - 1 <= 1000000;omega)
  have m1 : 0 <= parts.getD k default * m /\ parts.getD k default * m <= 900 * 1001:=jj a2.1 a2.2 (by omega) (by omega)
  have m2 : 0 <= n * (2 * s.getD k default - 1) /\ n * (2 * s.getD k default - 1) <= 900 * 1001:=jj hn.1 hn.2 (by omega) (by omega)
  apply Walk.drawX zb zk [] [] (hsK _) [_,_,_,_,_,_,_,_,_,_,_,_] (by kernel_rfl) rfl
  ·skip
   repeat' first|((first|(with_reducible refine XInt.i64 (by omega) (by omega) ?_)|((with_reducible refine XIx.nat ?_ ?_ ?_);omega;(intro _;rfl)));conv=>whnf)|(with_reducible apply XAnd.mk)|((first|(with_reducible apply Chk.go)|(with_reducible apply ChkA.go));conv=>whnf)|(exact zg.mk rfl rfl)|(with_reducible exact trivial)|fail
  ·skip
   repeat' first|(with_reducible apply XAnd.mk)|((first|(with_reducible apply ChkF.go)|(with_reducible apply ChkB.go));conv=>whnf)|(with_reducible exact trivial)|fail
  conv=>whnf
  repeat' first|((first|(with_reducible apply XBr.tt)|(with_reducible apply XBr.ff));conv=>whnf)|((with_reducible apply XBr.dec) <;> (intro h;first|(exfalso;omega)|((try simp only [List.length_map] at h);first|(exfalso;omega)|(conv=>whnf))))|((with_reducible apply XBr.beq) <;> (intro h;first|(exfalso;omega)|(conv=>whnf)))|((first|(with_reducible refine XInt.i64 (by omega) (by omega) ?_)|(refine za.ret hdq ?_));conv=>whnf)|((with_reducible apply XBr.mk') <;> (intro h;conv=>whnf))|fail
  ·exact zh.go (k + 1,lsQ parts s k) ⟨by dsimp only;omega,.inr ⟨k,by dsimp only;omega,⟨hsk,hpk,by assumption⟩,rfl⟩,a2,by show 0 < 2 * s.getD k default - 1 /\ 2 * s.getD k default - 1 <= 1001;omega⟩ (by dsimp only;omega) rfl ⟨rfl,rfl,rfl,rfl,rfl,rfl,rfl,rfl,rfl,trivial⟩
  ·exact zh.go (k + 1,lsQ parts s k) ⟨by dsimp only;omega,.inr ⟨k,by dsimp only;omega,⟨hsk,hpk,by assumption⟩,rfl⟩,a2,by show 0 < 2 * s.getD k default - 1 /\ 2 * s.getD k default - 1 <= 1001;omega⟩ (by dsimp only;omega) rfl ⟨rfl,rfl,rfl,rfl,rfl,rfl,rfl,rfl,rfl,trivial⟩
  ·exact zh.go (k + 1,n,m) ⟨by dsimp only;omega,hi.keep (by dsimp only;assumption),hn,hm⟩ (by dsimp only;omega) rfl ⟨rfl,rfl,rfl,rfl,rfl,rfl,rfl,rfl,rfl,trivial⟩
  ·exact zh.go (k + 1,n,m) ⟨by dsimp only;omega,hi.succ_no (fun e=>by have:=e.2.2;simp_all),hn,hm⟩ (by dsimp only;omega) rfl ⟨rfl,rfl,rfl,rfl,rfl,rfl,rfl,rfl,rfl,trivial⟩
 ·have hk6 : k = 6:=by omega
  subst hk6
  rw [dvs_ref hs0 hi,if_pos (by dsimp only;omega)]
  exact ⟨Froz.low rfl⟩
 ·have hk6 : k = 6:=by omega
  subst hk6
  rw [dvs_ref hs0 hi,if_neg (by dsimp only;omega)]
  dsimp only
  obtain ⟨N,rfl⟩:=Int.eq_ofNat_of_zero_le hn.1
  obtain ⟨M,rfl⟩:=Int.eq_ofNat_of_zero_le (Int.le_of_lt hm.1)
  rw [Int.toNat_natCast,Int.toNat_natCast]
  refine Walk.loop zb [] (fun g : Nat × Nat × Nat=>(0 < g.1 /\ g.1 <= 900) /\ g.2.1 <= 1001 /\ (1 <= g.2.2 /\ g.2.2 <= 900) /\ Nat.gcd g.1 g.2.1 <= g.2.2 /\ lowR (g.1,g.2.1) = lowR (N,M)) (fun g=>[(4,.int .i64 0),(5,.int .i64 0),(6,.int .i64 0),(8,natA g.1),(9,natA g.2.1),(13,natA g.2.2)]) (fun _=>[]) (fun g=>g.2.2) (N,M,N) ⟨by dsimp only;omega,by dsimp only;omega,by dsimp only;omega,Nat.le_of_dvd (by dsimp only;omega) (Nat.gcd_dvd_left _ _),rfl⟩ rfl ⟨rfl,rfl,rfl,rfl,rfl,rfl,trivial⟩ ?_
  rintro ⟨n,d,k⟩ ⟨i1,i2,i3,i4,i5⟩
  dsimp only at i1 i2 i3 i4 i5 ⊢
  conv=>whnf
  repeat' first|((first|(with_reducible apply XBr.tt)|(with_reducible apply XBr.ff));conv=>whnf)|((with_reducible apply XBr.dec) <;> (intro h;first|(exfalso;omega)|((try simp only [List.length_map] at h);first|(exfalso;omega)|(conv=>whnf))))|((with_reducible apply XBr.beq) <;> (intro h;first|(exfalso;omega)|(conv=>whnf)))|((with_reducible refine XInt.i64 (by omega) (by omega) ?_);conv=>whnf)|((with_reducible refine zj.mk ?_ ?_);(first | omega | rfl | decide|exact ⟨rfl,by decide,rfl⟩|exact zz _|exact zp _|exact zq _|(unfold Room;constructor <;> ((try simp) <;> omega))|exact ⟨rfl,by simp only [List.length_map],by unfold Room;constructor <;> ((try simp) <;> omega)⟩|exact ⟨by omega,by omega,by unfold Room;constructor <;> ((try simp) <;> omega)⟩);conv=>whnf)|fail
  ·have d1 : k ∣ n:=tm0 (by assumption)
   have d2 : k ∣ d:=tm0 (by assumption)
   have hk1 : 1 < k:=by omega
   obtain ⟨s1,s2,s3⟩:=low_step hk1 i1.1 i4 d1 d2
   have b1 : n / k <= n:=Nat.div_le_self _ _
   have b2 : d / k <= d:=Nat.div_le_self _ _
   apply Walk.drawX zb zk [] [] (hsK _) [natA n,natA k,natA (n / k),natA d,natA k,natA (d / k),natA (n / k),natA (d / k)] (by kernel_rfl) rfl
   ·skip
    repeat' first|((with_reducible refine zj.mk ?_ ?_);(first | omega | rfl | decide|exact ⟨rfl,by decide,rfl⟩|exact zz _|exact zp _|exact zq _|(unfold Room;constructor <;> ((try simp) <;> omega))|exact ⟨rfl,by simp only [List.length_map],by unfold Room;constructor <;> ((try simp) <;> omega)⟩|exact ⟨by omega,by omega,by unfold Room;constructor <;> ((try simp) <;> omega)⟩);conv=>whnf)|(with_reducible apply XAnd.mk)|((first|(with_reducible apply Chk.go)|(with_reducible apply ChkA.go));conv=>whnf)|(exact zg.mk rfl rfl)|(with_reducible exact trivial)|((refine XInt.tdivN (by omega) ?_);conv=>whnf)|fail
   ·skip
    repeat' first|(with_reducible apply XAnd.mk)|((first|(with_reducible apply ChkF.go)|(with_reducible apply ChkB.go));conv=>whnf)|(with_reducible exact trivial)|fail
   ·conv=>whnf
    repeat' first|((with_reducible refine XInt.i64 (by omega) (by omega) ?_);conv=>whnf)|fail
    refine zh.go (n / k,d / k,k - 1) ⟨by dsimp only;omega,by dsimp only;omega,by dsimp only;omega,by dsimp only;omega,by dsimp only;rw [s1,i5]⟩ (by dsimp only;omega) rfl ⟨rfl,rfl,rfl,rfl,rfl,congrArg (fun n : Int=>some (AV.int .i64 n)) (by dsimp only;omega),trivial⟩
  ·have hl:=zdI i4 fun e=>tm1 (by assumption) e.2
   refine zh.go (n,d,k - 1) ⟨by dsimp only;omega,by dsimp only;omega,by dsimp only;omega,hl,i5⟩ (by dsimp only;omega) rfl ⟨rfl,rfl,rfl,rfl,rfl,congrArg (fun n : Int=>some (AV.int .i64 n)) (by dsimp only;omega),trivial⟩
  ·have hl:=zdI i4 fun e=>tm1 (by assumption) e.1
   refine zh.go (n,d,k - 1) ⟨by dsimp only;omega,by dsimp only;omega,by dsimp only;omega,hl,i5⟩ (by dsimp only;omega) rfl ⟨rfl,rfl,rfl,rfl,rfl,congrArg (fun n : Int=>some (AV.int .i64 n)) (by dsimp only;omega),trivial⟩
  ·rw [<- i5,low_one i1.1 (by omega)]
   exact ⟨Froz.low rfl⟩
end GA
end
section
namespace GA
open Go Go.RowKit Go.Proofs
theorem partsOk_c (l : Ld) (o : LdW l) (h : zi l = 0) : Comp Tryz.prog 65 [ldA l] (.tup [.sl false (ints (zG l)),.int .i64 0]):=by
 refine Comp.body (T:=tab) (res:=[.tmp 2,.tmp 3]) zb [] Tryz.func65 rfl (by kernel_rfl) Tryz.ntmps65 rfl (by simp only [List.length_cons,List.length_nil];decide) (by simp only [lowL,AV.low,ldL];rfl) ?_;conv=>whnf
 refine za.ret (kS l o.w o.h1 o.h2 o.h3) ?_
 conv=>whnf
 repeat' first|((with_reducible apply XBr.bne) <;> (intro h;first|(exfalso;omega)|(conv=>whnf)))|fail
 refine za.ret (fK l ((zB l).1 h)) ?_
 conv=>whnf
 exact ⟨Froz.low (by show lowL 0 _ = true;simp only [lowL,AV.low,lowI];rfl)⟩
theorem partsNo_c (l : Ld) (o : LdW l) (h : zi l ≠ 0) : Comp Tryz.prog 65 [ldA l] (.tup [.sl true [],.int .i64 (zi l)]):=by
 refine Comp.body (T:=tab) (res:=[.tmp 2,.tmp 3]) zb [] Tryz.func65 rfl (by kernel_rfl) Tryz.ntmps65 rfl (by simp only [List.length_cons,List.length_nil];decide) (by simp only [lowL,AV.low,ldL];rfl) ?_;conv=>whnf
 refine za.ret (kS l o.w o.h1 o.h2 o.h3) ?_
 conv=>whnf
 repeat' first|((with_reducible apply XBr.bne) <;> (intro h;first|(exfalso;omega)|(conv=>whnf)))|fail
 exact ⟨Froz.low rfl⟩
def bkK (S s : List Int) (k : Nat) : List Int:=(List.range k).map fun i=>S.getD i 0 - s.getD i 0
theorem zcw (S s : List Int) (k : Nat) : (bkK S s k).length = k:=by simp [bkK]
theorem bkK_succ (S s : List Int) (k : Nat) : bkK S s (k + 1) = bkK S s k ++ [S.getD k 0 - s.getD k 0]:=by unfold bkK;rw [List.range_succ,List.map_append];rfl
theorem bk_owed {S s : List Int} (hs : S.length = 6) : bkK S s 6 = kC S s 6:=by
 have hl:=vA S s 6
 refine List.ext_getElem (by rw [zcw];omega) fun i h1 h2=>?_
 rw [zcw] at h1
 have:=owed_get S s hs i h1
 rw [List.getD_eq_getElem?_getD,List.getElem?_eq_getElem h2,Option.getD_some] at this
 rw [this];simp [bkK]
theorem eqr (xs : List Int) : (xs == xs) = true:=beq_self_eq_true xs
set_option maxHeartbeats 2000000 in
theorem zb9 (l : Ld) (hw : l.nla = true -> l.apart = []) (pay : Int) (nx : Bool) (s : List Int) (d : Int × Int) : Comp Tryz.prog 15 [ldA l,.int .i64 pay,.sl nx (ints s),rtA d] (.bool true):=by
 have hgr:=qf l
 have es : ((ints s).length : Int) = s.length:=by rw [List.length_map]
 refine Comp.body' (T:=tab) (res:=[.tmp 8]) zb [9,11,25,26] Tryz.func15 rfl (by kernel_rfl) Tryz.ntmps15 rfl (by simp only [List.length_cons,List.length_nil];decide) (by simp only [lowL,AV.low,ldL,lowI];rfl) ?_;conv=>whnf
 by_cases hg : jg l = true
 ·rw [hg] at hgr
  repeat' first|((first|(with_reducible apply XBr.tt)|(refine za.ret hgr ?_)|(refine za.ret zx ?_));conv=>whnf)|fail
  exact XOut.bool rfl
 ·rw [Bool.not_eq_true] at hg
  rw [hg] at hgr
  have hgl : l.sacks.length <= 14 /\ l.apart.length <= 12 /\ l.wth.length <= 12:=by
   unfold jg at hg
   simp only [Bool.or_eq_false_iff,decide_eq_false_iff_not] at hg
   omega
  have lw : LdW l:=⟨hw,by omega,by omega,by omega⟩
  have how:=own_c l lw
  have hth:=vi l lw
  have hsm:=zao l lw
  have ow : LdW (ownL l):=⟨nofun,lw.h1,lw.h2,lw.h3⟩
  have tw : LdW (thL l):=⟨hw,lw.h1,lw.h2,lw.h3⟩
  repeat' first|((with_reducible apply XBr.ff);conv=>whnf)|((with_reducible apply XBr.dec) <;> (intro h;first|(exfalso;omega)|((try simp only [List.length_map] at h);first|(exfalso;omega)|(conv=>whnf))))|((first|(refine za.ret hgr ?_)|(refine za.ret zx ?_));conv=>whnf)|fail
  ·exact XOut.bool rfl
  have hx : s.length <= 14:=by omega
  have hdup:=vK nx s (by omega)
  refine Walk.place (Walk.place ?_)
  apply Walk.drawX zb zk [] [6,7,8,10] (fun fl=>match fl with
   | [a,b,x,y]=>[(bif a then .cells (bif x then ldC (ownL l) else [.int .i64 0,.int .i64 0,.sl true [],.sl true [],.sl true []]) else .free),
     (bif b then .cells (bif y then ldC (thL l) else [.int .i64 0,.int .i64 0,.sl true [],.sl true [],.sl true []]) else .free)]
   | _=>[]) [_,_,_,_,_,_,.ptr 0 0,.ptr 1 0,_,_,_] (by kernel_rfl) rfl
  ·skip
   repeat' first|(with_reducible apply XAnd.mk)|((first|(with_reducible apply Chk.go)|(with_reducible apply ChkA.go));conv=>whnf)|(exact zg.mk rfl rfl)|(with_reducible exact trivial)|((first|(refine za.ret how ?_)|(refine za.ret hth ?_)|(refine za.ret hdup ?_));conv=>whnf)|(first|((refine yy.at 0 rfl ?_);(conv=>whnf);exact zg.mk rfl rfl)|((refine yy.at 1 rfl ?_);(conv=>whnf);exact zg.mk rfl rfl))|fail
  ·skip
   repeat' first|(with_reducible apply XAnd.mk)|((first|(with_reducible apply Chk.go)|(with_reducible apply ChkF.go)|(with_reducible apply ChkB.go));conv=>whnf)|(exact zg.mk rfl rfl)|(with_reducible exact trivial)|((first|(refine za.ret how ?_)|(refine za.ret hth ?_)|(refine za.ret hdup ?_));conv=>whnf)|(first|((refine yy.at 0 rfl ?_);(conv=>whnf);exact zg.mk rfl rfl)|((refine yy.at 1 rfl ?_);(conv=>whnf);exact zg.mk rfl rfl))|fail
  conv=>whnf
  have hrc : Comp Tryz.prog 45 [ldA (thL l)] (.int .i64 (zi l)):=kQ (thL l) tw
  have hsd : Comp Tryz.prog 66 [ldA (thL l),.sl nx (ints s)] (.int .i64 (zI l s)):=zdw (thL l) nx s tw (by omega)
  have hdr:=zb1 (ownL l) false s ow (by omega)
  have hdx:=zeA (ownL l) false s d ow (by omega)
  have hsh:=zcE (ownL l) pay ow
  have how:=owed_g (ownL l) false s pay ow (by omega)
  by_cases h0 : zi l = 0
  ·have ok:=(zB l).1 h0
   have tok : LdOk (thL l):=zam ok l.sacks.isEmpty l.nla l.nlw
   have hp : Comp Tryz.prog 65 [ldA (ownL l)] (.tup [.sl false (ints (zG l)),.int .i64 0]):=partsOk_c (ownL l) ow h0
   have hpr : Comp Tryz.prog 63 [ldA (thL l)] (.sl false (ints (zG l))):=wU (thL l) tok
   have hrs : Comp Tryz.prog 64 [ldA (thL l),.int .i64 pay] (jL l pay):=zeR (thL l) tok pay
   have hsh : Comp Tryz.prog 9 [ldA (ownL l),.int .i64 pay] (jL l pay):=hsh
   have how : kW Tryz.prog 67 [ldA (ownL l),.sl false (ints s),.int .i64 pay] (wh l s pay).1 (wh l s pay).2:=how
   have hdr : Comp Tryz.prog 10 [ldA (ownL l),.sl false (ints s)] (.tup [rtA (k7 l s).1,.int .i64 (k7 l s).2]):=hdr
   have hdx : Comp Tryz.prog 69 [ldA (ownL l),.sl false (ints s),rtA d] (.tup [.bool (divE l s d).1,.int .i64 (divE l s d).2]):=hdx
   have po:=kb (yA ok) pay.toNat
   have pk:=yA ok
   rw [h0] at hrc
   unfold jL at hsh hrs
   unfold k7 at hdr
   unfold divE at hdx
   unfold wh qJ owedI at how
   by_cases hB : zI l s = 0
   ·have so:=(gq hB).2
    have hrd : Comp Tryz.prog 68 [ldA (thL l),.sl nx (ints s)] (outDv (zG l) s):=zdi (thL l) nx s tok so
    have hrx : (0 <= d.1 /\ d.1 <= 1000000) -> (0 <= d.2 /\ d.2 <= 1000000) -> Comp Tryz.prog 70 [ldA (thL l),.sl nx (ints s),.int .i64 d.1,.int .i64 d.2] (.bool (dvB (zG l) s d)):=fun h1 h2=>qD (thL l) nx s d tok so h1 h2
    unfold outDv at hrd
    have hO : (if zI l s ≠ 0 then zI l s else zN l pay) = zN l pay:=if_neg (by omega)
    rw [hO] at how
    rw [hB] at hsd
    rw [if_pos hB] at hdr
    rw [if_neg (by omega)] at hdx
    by_cases hA : zN l pay = 0
    ·rw [if_pos hA] at hsh hrs how
     generalize hS0 : zJ (zG l) pay.toNat = S at hsh hrs how po
     generalize zG l = P at hp hpr hdr hdx hrd hrx pk
     have hP : P.length <= 100000:=by have:=pk.1;omega
     have hS : S.length <= 100000:=by have:=po.1;omega
     have ho : kC S s 6 = bkK S s 6:=(bk_owed po.1).symm
     rw [ho] at how
     dsimp only at how
     have hpay : 0 <= pay /\ pay <= 500:=by
      unfold zN at hA
      rw [if_neg (by omega)] at hA
      split at hA
      ·omega
      ·rename_i h;exact zL.1 (by simpa using h)
     have S6:=po.1
     have s6:=so.1
     have eS : ((ints S).length : Int) = 6:=by rw [List.length_map];omega
     repeat' first|((first|(with_reducible apply XBr.tt)|(with_reducible apply XBr.ff));conv=>whnf)|(with_reducible apply XBr.not)|((with_reducible apply XBr.beq) <;> (intro h;first|(exfalso;omega)|(conv=>whnf)))|((with_reducible apply XBr.bne) <;> (intro h;first|(exfalso;omega)|(conv=>whnf)))|((first|(refine za.ret hrc ?_)|(refine za.ret hp ?_)|(refine za.ret hpr ?_)|(refine za.ret hsh ?_)|(refine za.ret hrs ?_)|(refine za.ret (eqI _ _ P hP) ?_)|(refine za.ret (eqI _ _ S hS) ?_)|(refine za.ret hsd ?_));conv=>whnf)|fail
     refine Walk.nilgr 15 3 rfl ?_
     refine Walk.loop zb [] (fun k : Nat=>k <= 6) (fun k=>[(1,.int .i64 pay),(2,.sl nx (ints s)),(4,.pim (ldC l)),(7,.pim [.int .i64 d.1,.int .i64 d.2]),(8,.bool false),(9,.ptr 0 0),(10,.sl false (ints s)),(11,.ptr 1 0),(12,.int .i64 0),(21,.int .i64 0),(95,.sl false (ints S)),(96,.int .i64 6),(97,natA k),(15,.gr 2 (bkK S s k).length)])
      (fun k=>[.cells (ldC (ownL l)),.cells (ldC (thL l)),.grow 3 (bkK S s k).isEmpty (ints (bkK S s k))]) (fun k=>6 - k) 0 (Nat.zero_le _) rfl ⟨rfl,rfl,rfl,rfl,rfl,rfl,rfl,rfl,rfl,rfl,rfl,congrArg (fun n=>some (AV.int .i64 n)) eS,rfl,rfl,trivial⟩ ?_
     intro k hk
     have a:=po.2 k
     have b:=so.2 k
     have a2 : 0 <= S.getD k default /\ S.getD k default <= 500:=by have : 0 <= S.getD k default /\ S.getD k default <= pay.toNat:=a;omega
     have b2 : 0 <= s.getD k default /\ s.getD k default <= 500:=b
     have hn : bkK S s (k + 1) = bkK S s k ++ [S.getD k default - s.getD k default]:=bkK_succ S s k
     have hl:=zcw S s k
     have hfin : k = 6 -> bkK S s 6 = bkK S s k:=fun h=>by rw [h]
     generalize bkK S s k = B at hn hl hfin
     conv=>whnf
     repeat' first|((with_reducible apply XBr.dec) <;> (intro h;first|(exfalso;omega)|((try simp only [List.length_map] at h);first|(exfalso;omega)|(conv=>whnf))))|((with_reducible refine XInt.i64 (by omega) (by omega) ?_);conv=>whnf)|((with_reducible refine zj.mk ?_ ?_);(first | omega | rfl | decide|exact ⟨rfl,by decide,rfl⟩|exact zz _|exact zp _|exact zq _|(unfold Room;constructor <;> ((try simp) <;> omega))|exact ⟨rfl,by simp only [List.length_map],by unfold Room;constructor <;> ((try simp) <;> omega)⟩|exact ⟨by omega,by omega,by unfold Room;constructor <;> ((try simp) <;> omega)⟩);conv=>whnf)|(((with_reducible refine XIx.nat ?_ ?_ ?_);omega;(intro _;rfl));conv=>whnf)|fail
     ·refine zh.go (k + 1) (by omega) (by omega) ?_ ⟨rfl,rfl,rfl,rfl,rfl,rfl,rfl,rfl,rfl,rfl,rfl,rfl,rfl,?_,trivial⟩
      ·rw [hn];simp only [List.map_append,ya];rfl
      ·rw [hn];simp only [List.length_append];rfl
     ·rw [hfin (by omega)] at how
      refine za.give how ?_
      rw [List.map_cons,wF,List.map_nil];conv=>whnf
      have hl6 : B.length = 6:=by omega
      repeat' first|((with_reducible apply XBr.ff);conv=>whnf)|((with_reducible apply XBr.bne) <;> (intro h;first|(exfalso;omega)|(conv=>whnf)))|fail
      show za Tryz.prog 23 [.gr 3 6,.gr 2 B.length] [.cells (ldC (ownL l)),.cells (ldC (thL l)),.grow 3 B.isEmpty (ints B),.grow 3 false (ints B)] _
      refine za.lend (eqI false B.isEmpty B (by omega)) (.cons (Froz.grow (i:=3) rfl (by rw [List.length_map];exact hl6) (lowI _)) (.cons (Froz.grow (i:=2) rfl (by rw [List.length_map]) (lowI _)) .nil)) rfl ?_
      conv=>whnf
      repeat' first|((first|(with_reducible apply XBr.tt)|(with_reducible apply XBr.ff));conv=>whnf)|(with_reducible apply XBr.not)|((with_reducible apply XBr.beq) <;> (intro h;first|(exfalso;omega)|(conv=>whnf)))|((with_reducible apply XBr.bne) <;> (intro h;first|(exfalso;omega)|(conv=>whnf)))|((first|(refine za.ret hdr ?_)|(refine za.ret hrd ?_));conv=>whnf)|(refine XEqA.mk ⟨[_,_],[_,_],rfl,rfl,rfl,rfl,?_⟩;rw [eqr];conv=>whnf)|fail
      refine Walk.norm zb [] [(2,.sl nx (ints s)),(4,.pim (ldC l)),(7,.pim [.int .i64 d.1,.int .i64 d.2]),(8,.bool false),(9,.ptr 0 0),(10,.sl false (ints s)),(11,.ptr 1 0),(12,.int .i64 0)] ⟨rfl,rfl,rfl,rfl,rfl,rfl,rfl,rfl,trivial⟩ ?_
      conv=>whnf
      by_cases hr : vz d = true
      ·have hr2:=wn.1 hr
       rw [if_neg (by rw [hr];simp)] at hdx
       dsimp only at hdx
       repeat' first|((first|(with_reducible apply XBr.tt)|(with_reducible apply XBr.ff));conv=>whnf)|((with_reducible apply XBr.dec) <;> (intro h;first|(exfalso;omega)|((try simp only [List.length_map] at h);first|(exfalso;omega)|(conv=>whnf))))|((with_reducible apply XBr.beq) <;> (intro h;first|(exfalso;omega)|(conv=>whnf)))|((refine za.ret hdx ?_);conv=>whnf)|fail
       all_goals first|(exfalso;omega) | skip
       refine Walk.norm zb [] [(2,.sl nx (ints s)),(4,.pim (ldC l)),(7,.pim [.int .i64 d.1,.int .i64 d.2]),(8,.bool false),(9,.ptr 0 0),(10,.sl false (ints s)),(11,.ptr 1 0),(12,.int .i64 0),(18,.int .i64 0),(27,.bool (dvB P s d))] ⟨rfl,rfl,rfl,rfl,rfl,rfl,rfl,rfl,rfl,rfl,trivial⟩ ?_
       conv=>whnf
       repeat' first|((first|(with_reducible apply XBr.tt)|(with_reducible apply XBr.ff));conv=>whnf)|((with_reducible apply XBr.beq) <;> (intro h;first|(exfalso;omega)|(conv=>whnf)))|((first|(refine za.ret (eqI _ _ s (by omega)) ?_)|(refine za.ret (hrx (by omega) (by omega)) ?_)|(refine za.ret hsm ?_)|(refine za.ret zx ?_));conv=>whnf)|((with_reducible apply XBr.mk') <;> (intro h;conv=>whnf))|fail
       all_goals first|exact XOut.bool rfl|(exfalso;exact Bool.noConfusion h)|(exfalso;simp at h;done) | skip
      ·have hr2 : ¬ ((1 <= d.1 /\ d.1 <= 100000) /\ 1 <= d.2 /\ d.2 <= 100000):=fun h=>hr (wn.2 h)
       rw [if_pos (by simpa using hr)] at hdx
       dsimp only at hdx
       repeat' first|((first|(with_reducible apply XBr.tt)|(with_reducible apply XBr.ff));conv=>whnf)|((with_reducible apply XBr.dec) <;> (intro h;first|(exfalso;omega)|((try simp only [List.length_map] at h);first|(exfalso;omega)|(conv=>whnf))))|((with_reducible apply XBr.beq) <;> (intro h;first|(exfalso;omega)|(conv=>whnf)))|((refine za.ret hdx ?_);conv=>whnf)|fail
       all_goals first|(exfalso;omega) | skip
       all_goals
        refine Walk.norm zb [] [(2,.sl nx (ints s)),(4,.pim (ldC l)),(7,.pim [.int .i64 d.1,.int .i64 d.2]),(8,.bool false),(9,.ptr 0 0),(10,.sl false (ints s)),(11,.ptr 1 0),(12,.int .i64 3),(18,.int .i64 3),(27,.bool false)] ⟨rfl,rfl,rfl,rfl,rfl,rfl,rfl,rfl,rfl,rfl,trivial⟩ ?_
        conv=>whnf
        repeat' first|((first|(with_reducible apply XBr.tt)|(with_reducible apply XBr.ff));conv=>whnf)|((with_reducible apply XBr.beq) <;> (intro h;first|(exfalso;omega)|(conv=>whnf)))|((first|(refine za.ret (eqI _ _ s (by omega)) ?_)|(refine za.ret hsm ?_)|(refine za.ret zx ?_));conv=>whnf)|((with_reducible apply XBr.mk') <;> (intro h;conv=>whnf))|fail
        all_goals first|exact XOut.bool rfl|(exfalso;exact Bool.noConfusion h)|(exfalso;simp at h;done) | skip
    ·rw [if_neg hA] at hsh hrs how
     generalize zN l pay = a at hsh hrs how hA
     generalize zG l = P at hp hpr hdr hdx hrd hrx pk
     have hP : P.length <= 100000:=by have:=pk.1;omega
     repeat' first|((first|(with_reducible apply XBr.tt)|(with_reducible apply XBr.ff));conv=>whnf)|(with_reducible apply XBr.not)|((with_reducible apply XBr.beq) <;> (intro h;first|(exfalso;omega)|(conv=>whnf)))|((with_reducible apply XBr.bne) <;> (intro h;first|(exfalso;omega)|(conv=>whnf)))|((first|(refine za.ret hrc ?_)|(refine za.ret hp ?_)|(refine za.ret hpr ?_)|(refine za.ret hsh ?_)|(refine za.ret hrs ?_)|(refine za.ret (eqI _ _ P hP) ?_)|(refine za.ret (eqI true true [] (by decide)) ?_)|(refine za.ret hsd ?_)|(refine za.give how ?_)|(refine za.ret hdr ?_)|(refine za.ret hrd ?_));conv=>whnf)|(refine XEqA.mk ⟨[_,_],[_,_],rfl,rfl,rfl,rfl,?_⟩;rw [eqr];conv=>whnf)|fail
     all_goals first|(exfalso;exact absurd rfl (by assumption)) | skip
     refine Walk.norm zb [] [(2,.sl nx (ints s)),(4,.pim (ldC l)),(7,.pim [.int .i64 d.1,.int .i64 d.2]),(8,.bool false),(9,.ptr 0 0),(10,.sl false (ints s)),(11,.ptr 1 0),(12,.int .i64 0)] ⟨rfl,rfl,rfl,rfl,rfl,rfl,rfl,rfl,trivial⟩ ?_
     conv=>whnf
     by_cases hr : vz d = true
     ·have hr2:=wn.1 hr
      rw [if_neg (by rw [hr];simp)] at hdx
      dsimp only at hdx
      repeat' first|((first|(with_reducible apply XBr.tt)|(with_reducible apply XBr.ff));conv=>whnf)|((with_reducible apply XBr.dec) <;> (intro h;first|(exfalso;omega)|((try simp only [List.length_map] at h);first|(exfalso;omega)|(conv=>whnf))))|((with_reducible apply XBr.beq) <;> (intro h;first|(exfalso;omega)|(conv=>whnf)))|((refine za.ret hdx ?_);conv=>whnf)|fail
      all_goals first|(exfalso;omega) | skip
      refine Walk.norm zb [] [(2,.sl nx (ints s)),(4,.pim (ldC l)),(7,.pim [.int .i64 d.1,.int .i64 d.2]),(8,.bool false),(9,.ptr 0 0),(10,.sl false (ints s)),(11,.ptr 1 0),(12,.int .i64 0),(18,.int .i64 0),(27,.bool (dvB P s d))] ⟨rfl,rfl,rfl,rfl,rfl,rfl,rfl,rfl,rfl,rfl,trivial⟩ ?_
      conv=>whnf
      repeat' first|((first|(with_reducible apply XBr.tt)|(with_reducible apply XBr.ff));conv=>whnf)|((with_reducible apply XBr.beq) <;> (intro h;first|(exfalso;omega)|(conv=>whnf)))|((first|(refine za.ret (eqI _ _ s (by omega)) ?_)|(refine za.ret (hrx (by omega) (by omega)) ?_)|(refine za.ret hsm ?_)|(refine za.ret zx ?_));conv=>whnf)|((with_reducible apply XBr.mk') <;> (intro h;conv=>whnf))|fail
      all_goals first|exact XOut.bool rfl|(exfalso;exact Bool.noConfusion h)|(exfalso;simp at h;done) | skip
     ·have hr2 : ¬ ((1 <= d.1 /\ d.1 <= 100000) /\ 1 <= d.2 /\ d.2 <= 100000):=fun h=>hr (wn.2 h)
      rw [if_pos (by simpa using hr)] at hdx
      dsimp only at hdx
      repeat' first|((first|(with_reducible apply XBr.tt)|(with_reducible apply XBr.ff));conv=>whnf)|((with_reducible apply XBr.dec) <;> (intro h;first|(exfalso;omega)|((try simp only [List.length_map] at h);first|(exfalso;omega)|(conv=>whnf))))|((with_reducible apply XBr.beq) <;> (intro h;first|(exfalso;omega)|(conv=>whnf)))|((refine za.ret hdx ?_);conv=>whnf)|fail
      all_goals first|(exfalso;omega) | skip
      all_goals
       refine Walk.norm zb [] [(2,.sl nx (ints s)),(4,.pim (ldC l)),(7,.pim [.int .i64 d.1,.int .i64 d.2]),(8,.bool false),(9,.ptr 0 0),(10,.sl false (ints s)),(11,.ptr 1 0),(12,.int .i64 3),(18,.int .i64 3),(27,.bool false)] ⟨rfl,rfl,rfl,rfl,rfl,rfl,rfl,rfl,rfl,rfl,trivial⟩ ?_
       conv=>whnf
       repeat' first|((first|(with_reducible apply XBr.tt)|(with_reducible apply XBr.ff));conv=>whnf)|((with_reducible apply XBr.beq) <;> (intro h;first|(exfalso;omega)|(conv=>whnf)))|((first|(refine za.ret (eqI _ _ s (by omega)) ?_)|(refine za.ret hsm ?_)|(refine za.ret zx ?_));conv=>whnf)|((with_reducible apply XBr.mk') <;> (intro h;conv=>whnf))|fail
       all_goals first|exact XOut.bool rfl|(exfalso;exact Bool.noConfusion h)|(exfalso;simp at h;done) | skip
   ·have hO : (if zI l s ≠ 0 then zI l s else zN l pay) = zI l s:=if_pos hB
    rw [hO,if_neg hB] at how
    rw [if_neg hB] at hdr
    rw [if_pos hB] at hdx
    dsimp only at hdr hdx how
    generalize zI l s = b at hsd hdr hdx how hB
    by_cases hA : zN l pay = 0
    ·rw [if_pos hA] at hsh hrs
     generalize zJ (zG l) pay.toNat = S at hsh hrs po
     generalize zG l = P at hp hpr pk
     have hP : P.length <= 100000:=by have:=pk.1;omega
     have hS : S.length <= 100000:=by have:=po.1;omega
     repeat' first|((first|(with_reducible apply XBr.tt)|(with_reducible apply XBr.ff));conv=>whnf)|(with_reducible apply XBr.not)|((with_reducible apply XBr.beq) <;> (intro h;first|(exfalso;omega)|(conv=>whnf)))|((with_reducible apply XBr.bne) <;> (intro h;first|(exfalso;omega)|(conv=>whnf)))|((first|(refine za.ret hrc ?_)|(refine za.ret hp ?_)|(refine za.ret hpr ?_)|(refine za.ret hsh ?_)|(refine za.ret hrs ?_)|(refine za.ret (eqI _ _ P hP) ?_)|(refine za.ret (eqI _ _ S hS) ?_)|(refine za.ret (eqI true true [] (by decide)) ?_)|(refine za.ret hsd ?_)|(refine za.give how ?_)|(refine za.ret hdr ?_));conv=>whnf)|(refine XEqA.mk ⟨[_,_],[_,_],rfl,rfl,rfl,rfl,?_⟩;rw [eqr];conv=>whnf)|fail
     refine Walk.norm zb [] [(2,.sl nx (ints s)),(4,.pim (ldC l)),(7,.pim [.int .i64 d.1,.int .i64 d.2]),(8,.bool false),(9,.ptr 0 0),(10,.sl false (ints s)),(11,.ptr 1 0),(12,.int .i64 b)] ⟨rfl,rfl,rfl,rfl,rfl,rfl,rfl,rfl,trivial⟩ ?_
     conv=>whnf
     repeat' first|((with_reducible apply XBr.ff);conv=>whnf)|((with_reducible apply XBr.beq) <;> (intro h;first|(exfalso;omega)|(conv=>whnf)))|((refine za.ret hdx ?_);conv=>whnf)|fail
     all_goals first|(exfalso;exact absurd rfl (by assumption)) | skip
     refine Walk.norm zb [] [(2,.sl nx (ints s)),(4,.pim (ldC l)),(7,.pim [.int .i64 d.1,.int .i64 d.2]),(8,.bool false),(9,.ptr 0 0),(10,.sl false (ints s)),(11,.ptr 1 0),(12,.int .i64 b),(18,.int .i64 b),(27,.bool false)] ⟨rfl,rfl,rfl,rfl,rfl,rfl,rfl,rfl,rfl,rfl,trivial⟩ ?_
     conv=>whnf
     repeat' first|((first|(with_reducible apply XBr.tt)|(with_reducible apply XBr.ff));conv=>whnf)|((with_reducible apply XBr.beq) <;> (intro h;first|(exfalso;omega)|(conv=>whnf)))|((first|(refine za.ret (eqI _ _ s (by omega)) ?_)|(refine za.ret hsm ?_)|(refine za.ret zx ?_));conv=>whnf)|((with_reducible apply XBr.mk') <;> (intro h;conv=>whnf))|fail
     all_goals first|exact XOut.bool rfl|(exfalso;exact Bool.noConfusion h)|(exfalso;simp at h;done) | skip
    ·rw [if_neg hA] at hsh hrs
     generalize zN l pay = a at hsh hrs hA
     generalize zG l = P at hp hpr pk
     have hP : P.length <= 100000:=by have:=pk.1;omega
     repeat' first|((first|(with_reducible apply XBr.tt)|(with_reducible apply XBr.ff));conv=>whnf)|(with_reducible apply XBr.not)|((with_reducible apply XBr.beq) <;> (intro h;first|(exfalso;omega)|(conv=>whnf)))|((with_reducible apply XBr.bne) <;> (intro h;first|(exfalso;omega)|(conv=>whnf)))|((first|(refine za.ret hrc ?_)|(refine za.ret hp ?_)|(refine za.ret hpr ?_)|(refine za.ret hsh ?_)|(refine za.ret hrs ?_)|(refine za.ret (eqI _ _ P hP) ?_)|(refine za.ret (eqI true true [] (by decide)) ?_)|(refine za.ret hsd ?_)|(refine za.give how ?_)|(refine za.ret hdr ?_));conv=>whnf)|(refine XEqA.mk ⟨[_,_],[_,_],rfl,rfl,rfl,rfl,?_⟩;rw [eqr];conv=>whnf)|fail
     refine Walk.norm zb [] [(2,.sl nx (ints s)),(4,.pim (ldC l)),(7,.pim [.int .i64 d.1,.int .i64 d.2]),(8,.bool false),(9,.ptr 0 0),(10,.sl false (ints s)),(11,.ptr 1 0),(12,.int .i64 b)] ⟨rfl,rfl,rfl,rfl,rfl,rfl,rfl,rfl,trivial⟩ ?_
     conv=>whnf
     repeat' first|((with_reducible apply XBr.ff);conv=>whnf)|((with_reducible apply XBr.beq) <;> (intro h;first|(exfalso;omega)|(conv=>whnf)))|((refine za.ret hdx ?_);conv=>whnf)|fail
     all_goals first|(exfalso;exact absurd rfl (by assumption)) | skip
     refine Walk.norm zb [] [(2,.sl nx (ints s)),(4,.pim (ldC l)),(7,.pim [.int .i64 d.1,.int .i64 d.2]),(8,.bool false),(9,.ptr 0 0),(10,.sl false (ints s)),(11,.ptr 1 0),(12,.int .i64 b),(18,.int .i64 b),(27,.bool false)] ⟨rfl,rfl,rfl,rfl,rfl,rfl,rfl,rfl,rfl,rfl,trivial⟩ ?_
     conv=>whnf
     repeat' first|((first|(with_reducible apply XBr.tt)|(with_reducible apply XBr.ff));conv=>whnf)|((with_reducible apply XBr.beq) <;> (intro h;first|(exfalso;omega)|(conv=>whnf)))|((first|(refine za.ret (eqI _ _ s (by omega)) ?_)|(refine za.ret hsm ?_)|(refine za.ret zx ?_));conv=>whnf)|((with_reducible apply XBr.mk') <;> (intro h;conv=>whnf))|fail
     all_goals first|exact XOut.bool rfl|(exfalso;exact Bool.noConfusion h)|(exfalso;simp at h;done) | skip
  ·have hp:=partsNo_c (ownL l) ow h0
   have hE : zI (ownL l) s = zi l:=by unfold zI;exact if_pos h0
   have hF : zN (ownL l) pay = zi l:=by unfold zN;exact if_pos h0
   have hO : qJ (ownL l) s pay = zi l:=by unfold qJ;rw [hE,if_pos h0]
   unfold jL at hsh
   unfold k7 at hdr
   unfold divE at hdx
   unfold wh at how
   rw [hF,if_neg h0] at hsh
   rw [hO,if_neg h0] at how
   rw [hE,if_neg h0] at hdr
   rw [hE,if_pos h0] at hdx
   rw [show zI l s = zi l from hE] at hsd
   have hp2 : Comp Tryz.prog 65 [ldA (ownL l)] (.tup [.sl true [],.int .i64 (zi l)]):=hp
   clear hp hE hF hO
   dsimp only at hdr hdx how
   generalize zi l = e at h0 hp2 hrc hsd hdr hdx hsh how
   have hp:=hp2
   repeat' first|((first|(with_reducible apply XBr.tt)|(with_reducible apply XBr.ff));conv=>whnf)|(with_reducible apply XBr.not)|((with_reducible apply XBr.beq) <;> (intro h;first|(exfalso;omega)|(conv=>whnf)))|((with_reducible apply XBr.bne) <;> (intro h;first|(exfalso;omega)|(conv=>whnf)))|((first|(refine za.ret hrc ?_)|(refine za.ret hp ?_)|(refine za.ret hsh ?_)|(refine za.ret (eqI true true [] (by decide)) ?_)|(refine za.ret hsd ?_)|(refine za.give how ?_)|(refine za.ret hdr ?_));conv=>whnf)|(refine XEqA.mk ⟨[_,_],[_,_],rfl,rfl,rfl,rfl,?_⟩;rw [eqr];conv=>whnf)|fail
   refine Walk.norm zb [] [(2,.sl nx (ints s)),(4,.pim (ldC l)),(7,.pim [.int .i64 d.1,.int .i64 d.2]),(8,.bool false),(9,.ptr 0 0),(10,.sl false (ints s)),(11,.ptr 1 0),(12,.int .i64 e)] ⟨rfl,rfl,rfl,rfl,rfl,rfl,rfl,rfl,trivial⟩ ?_
   conv=>whnf
   repeat' first|((with_reducible apply XBr.ff);conv=>whnf)|((with_reducible apply XBr.beq) <;> (intro h;first|(exfalso;omega)|(conv=>whnf)))|((refine za.ret hdx ?_);conv=>whnf)|fail
   all_goals first|(exfalso;exact absurd rfl (by assumption)) | skip
   refine Walk.norm zb [] [(2,.sl nx (ints s)),(4,.pim (ldC l)),(7,.pim [.int .i64 d.1,.int .i64 d.2]),(8,.bool false),(9,.ptr 0 0),(10,.sl false (ints s)),(11,.ptr 1 0),(12,.int .i64 e),(18,.int .i64 e),(27,.bool false)] ⟨rfl,rfl,rfl,rfl,rfl,rfl,rfl,rfl,rfl,rfl,trivial⟩ ?_
   conv=>whnf
   repeat' first|((first|(with_reducible apply XBr.tt)|(with_reducible apply XBr.ff));conv=>whnf)|((with_reducible apply XBr.beq) <;> (intro h;first|(exfalso;omega)|(conv=>whnf)))|((first|(refine za.ret (eqI _ _ s (by omega)) ?_)|(refine za.ret hsm ?_)|(refine za.ret zx ?_));conv=>whnf)|((with_reducible apply XBr.mk') <;> (intro h;conv=>whnf))|fail
   all_goals first|exact XOut.bool rfl|(exfalso;exact Bool.noConfusion h)|(exfalso;simp at h;done) | skip
end GA
end
section
namespace GA
open Go Go.RowKit Go.Proofs
def onB (xs : List Int) (c : Int) : List Bool:=xs.map fun x=>x == c
def onK (xs : List Int) (c : Int) (k : Nat) : List Bool:=onB (xs.take k) c ++ List.replicate (xs.length - k) false
theorem zc4 (xs : List Int) (c : Int) {k : Nat} (h : k <= xs.length) : (onK xs c k).length = xs.length:=by
 simp [onK,onB];omega
theorem onK_next {xs : List Int} {c : Int} {k : Nat} (h : k < xs.length) : (onK xs c k).set k (xs.getD k default == c) = onK xs c (k + 1):=by
 apply List.ext_getElem (by rw [List.length_set,zc4 _ _ (by omega),zc4 _ _ (by omega)])
 intro i h1 h2
 have hx : xs.getD k default = xs[k]:=by rw [List.getD_eq_getElem?_getD,List.getElem?_eq_getElem h];rfl
 simp only [onK,onB,List.getElem_set,List.getElem_append,List.length_map,List.length_take]
 by_cases hi : k = i
 ·subst hi
  rw [if_pos rfl,dif_pos (by omega),List.getElem_map,List.getElem_take,hx]
 ·rw [if_neg hi]
  by_cases h3 : i < k
  ·rw [dif_pos (by omega),dif_pos (by omega)];simp
  ·rw [dif_neg (by omega),dif_neg (by omega)];simp
theorem onK_end (xs : List Int) (c : Int) {k : Nat} (h : k = xs.length) : onK xs c k = onB xs c:=by
 subst h;simp [onK]
theorem refOn_c (nl : Bool) (xs : List Int) (c : Int) (hx : xs.length <= 100000) : Comp Tryz.prog 97 [.sl nl (ints xs),.int .i64 c] (.sl false (bools (onB xs c))):=by
 have e1 : ((ints xs).length : Int) = xs.length:=by rw [List.length_map]
 refine Comp.body (T:=tab) (res:=[.tmp 4]) zb [] Tryz.func97 rfl (by kernel_rfl) Tryz.ntmps97 rfl (by simp only [List.length_cons,List.length_nil];decide) (by simp only [lowL,AV.low,lowI];rfl) ?_;conv=>whnf
 repeat' first|((with_reducible refine zj.mk ?_ ?_);(first | omega | rfl | decide|exact ⟨rfl,by decide,rfl⟩|exact zz _|exact zp _|exact zq _|(unfold Room;constructor <;> ((try simp) <;> omega))|exact ⟨rfl,by simp only [List.length_map],by unfold Room;constructor <;> ((try simp) <;> omega)⟩|exact ⟨by omega,by omega,by unfold Room;constructor <;> ((try simp) <;> omega)⟩);conv=>whnf)|fail
 refine Walk.loop zb [] (fun k : Nat=>k <= xs.length) (fun k=>[(0,.sl nl (ints xs)),(1,.int .i64 c),(4,.sl true []),(5,.gr 0 xs.length),(6,natA k)]) (fun k=>[.grow 4 false (bools (onK xs c k))]) (fun k=>xs.length - k) 0 (Nat.zero_le _) ?_ ⟨rfl,rfl,rfl,?_,rfl,trivial⟩ ?_
 ·show [Blk.grow 4 false (bools (onK xs c 0))] = _
  have : bools (onK xs c 0) = List.replicate (((ints xs).length : Int)).toNat (.bool false):=by simp [onK,onB,bools]
  rw [this]
 ·exact congrArg (fun n=>some (AV.gr 0 n)) (by rw [e1];rfl)
 intro k hk
 have hl:=zc4 xs c hk
 have hn:=onK_next (xs:=xs) (c:=c) (k:=k)
 have he:=onK_end xs c (k:=k)
 generalize onK xs c k = bs at hl hn he
 conv=>whnf
 repeat' first|((with_reducible apply XBr.dec) <;> (intro h;first|(exfalso;omega)|((try simp only [List.length_map] at h);first|(exfalso;omega)|(conv=>whnf))))|((first|(with_reducible refine XInt.i64 (by omega) (by omega) ?_)|((with_reducible refine XIx.nat ?_ ?_ ?_);omega;(intro _;rfl))|(refine zj.mk ⟨by rw [List.length_map];exact hl,rfl,by omega,by omega⟩ ?_)|(refine XPut.bools bs _ rfl hl.symm (by omega) ?_));conv=>whnf)|fail
 ·refine zh.go (k + 1) (by omega) (by omega) ?_ ⟨rfl,rfl,rfl,rfl,rfl,trivial⟩
  rw [<- hn (by omega)];rfl
 ·rw [<- he (by omega)]
  exact ⟨Froz.grow rfl (by rw [List.length_map];exact hl) (jI _)⟩
def jV : Nat -> List Int -> Option Nat
 | nx,[]=>some nx
 | nx,x :: t=>if (nx : Int) < x then none else jV (if x = nx then nx + 1 else nx) t
theorem zaT {nx : Nat} {xs : List Int} {k : Nat} (h : k < xs.length) : jV nx (xs.drop k) = if (nx : Int) < xs.getD k default then none else jV (if xs.getD k default = nx then nx + 1 else nx) (xs.drop (k + 1)):=by
 rw [jy h];rfl
theorem zbH {nx : Nat} {xs : List Int} {k : Nat} (h : k = xs.length) : jV nx (xs.drop k) = some nx:=by
 rw [h,List.drop_length];rfl
theorem zaW : ∀ {xs : List Int} {a b : Nat},jV a xs = some b -> a <= b /\ (∀ x ∈ xs,x < b) /\ ((∀ x ∈ xs,x < 9) -> a <= 9 -> b <= 9)
 | [],a,b,h=>by cases h;simp
 | x :: t,a,b,h=>by
   unfold jV at h
   split at h
   ·cases h
   ·have ih:=zaW h
    by_cases hx : x = a
    ·rw [if_pos hx] at ih
     refine ⟨by omega,fun y hy=>?_,fun h9 ha=>ih.2.2 (fun y hy=>h9 y (by simp [hy])) (by have:=h9 x (by simp);omega)⟩
     rcases List.mem_cons.1 hy with rfl | hy
     ·omega
     ·exact ih.2.1 y hy
    ·rw [if_neg hx] at ih
     refine ⟨by omega,fun y hy=>?_,fun h9 ha=>ih.2.2 (fun y hy=>h9 y (by simp [hy])) ha⟩
     rcases List.mem_cons.1 hy with rfl | hy
     ·omega
     ·exact ih.2.1 y hy
def jd (xs : List Int) (c : Int) : Nat:=setN (onB xs c)
theorem setOn_lt (xs : List Int) (c : Int) : jd xs c < 2 ^ xs.length:=by
 have:=zc6 (onB xs c);unfold jd;simpa [onB] using this
theorem fR (xs : List Int) (c : Int) (i : Nat) : (onB xs c).getD i false = (decide (i < xs.length) && (xs.getD i default == c)):=by
 unfold onB
 by_cases h : i < xs.length
 ·rw [List.getD_eq_getElem?_getD,List.getElem?_map,List.getElem?_eq_getElem h,List.getD_eq_getElem?_getD,List.getElem?_eq_getElem h];simp [h]
 ·rw [List.getD_eq_getElem?_getD,List.getElem?_eq_none (by simpa using h)];simp [h]
theorem zex {xs : List Int} {c : Int} (h : ∀ x ∈ xs,x ≠ c) : jd xs c = 0:=yY fun i=>by
 unfold jd
 rw [yI,fR,Nat.zero_testBit]
 by_cases hi : i < xs.length
 ·have:=h _ (zu (d:=default) hi);rw [beq_eq_false_iff_ne.2 this];simp
 ·simp [hi]
theorem zeN {xs : List Int} {c : Int} {k : Nat} (h : k < xs.length) : jd (xs.take (k + 1)) c = if xs.getD k default = c then jd (xs.take k) c ||| 2 ^ k else jd (xs.take k) c:=by
 have hl : (xs.take k).length = k:=by rw [List.length_take];omega
 have hl' : (xs.take (k + 1)).length = k + 1:=by rw [List.length_take];omega
 have g : ∀ i,i < k -> (xs.take (k + 1)).getD i default = (xs.take k).getD i default:=fun i hi=>by
  rw [List.getD_eq_getElem?_getD,List.getD_eq_getElem?_getD,List.getElem?_take,List.getElem?_take,if_pos (by omega),if_pos hi]
 have gk : (xs.take (k + 1)).getD k default = xs.getD k default:=by
  rw [List.getD_eq_getElem?_getD,List.getElem?_take,if_pos (by omega),<- List.getD_eq_getElem?_getD]
 apply yY;intro i
 unfold jd
 rw [yI,fR,hl']
 split
 ·rename_i hc
  rw [Nat.testBit_or,yI,fR,hl,Nat.testBit_two_pow]
  by_cases hi : i < k
  ·rw [g i hi];simp [hi,show i < k + 1 by omega,show ¬ k = i by omega]
  ·by_cases hk : i = k
   ·subst hk;rw [gk,hc];simp
   ·simp [hi,show ¬ i < k + 1 by omega,show ¬ k = i by omega]
 ·rename_i hc
  rw [yI,fR,hl]
  by_cases hi : i < k
  ·rw [g i hi];simp [hi,show i < k + 1 by omega]
  ·by_cases hk : i = k
   ·subst hk;rw [gk,beq_eq_false_iff_ne.2 hc];simp
   ·simp [hi,show ¬ i < k + 1 by omega]
def z4 (l : Ld) (xs : List Int) : Bool:=match jV 0 xs with | none=>false | some nx=>(List.range nx).all fun c=>zn (zf l) (jd xs c)
theorem zef (l : Ld) (o : LdOk l) (nl : Bool) (xs : List Int) (hx : xs.length = l.sacks.length) : Comp Tryz.prog 56 [ldA l,.sl nl (ints xs)] (.bool (z4 l xs)):=by
 have hn:=o.n
 have e1 : ((ints xs).length : Int) = xs.length:=by rw [List.length_map]
 refine Comp.body (T:=tab) (res:=[.tmp 4]) zb [] Tryz.func56 rfl (by kernel_rfl) Tryz.ntmps56 rfl (by simp only [List.length_cons,List.length_nil];decide) (by simp only [lowL,AV.low,ldL,lowI];rfl) ?_;conv=>whnf
 skip
 refine Walk.loop zb [] (fun p : Nat × Nat=>p.1 <= xs.length /\ p.2 <= p.1 /\ jV 0 xs = jV p.2 (xs.drop p.1)) (fun p=>[(1,.sl nl (ints xs)),(2,.pim (ldC l)),(5,natA p.2),(6,natA p.1)]) (fun _=>[]) (fun p=>xs.length - p.1) (0,0) ⟨Nat.zero_le _,Nat.le_refl _,rfl⟩ rfl ⟨rfl,rfl,rfl,rfl,trivial⟩ ?_
 rintro ⟨k,nx⟩ ⟨hk,hnk,he⟩
 dsimp only at hk hnk he ⊢
 have hne:=zaT (nx:=nx) (xs:=xs) (k:=k)
 have hen:=zbH (nx:=nx) (xs:=xs) (k:=k)
 conv=>whnf
 repeat' first|((with_reducible apply XBr.dec) <;> (intro h;first|(exfalso;omega)|((try simp only [List.length_map] at h);first|(exfalso;omega)|(conv=>whnf))))|((with_reducible apply XBr.beq) <;> (intro h;first|(exfalso;omega)|(conv=>whnf)))|((first|(with_reducible refine XInt.i64 (by omega) (by omega) ?_)|((with_reducible refine XIx.nat ?_ ?_ ?_);omega;(intro _;rfl)));conv=>whnf)|fail
 ·rw [hne (by omega),if_pos (by omega)] at he
  refine XOut.bool ?_
  unfold z4;rw [he]
 ·rw [hne (by omega),if_neg (by omega),if_pos (by omega)] at he
  exact zh.go (k + 1,nx + 1) ⟨by dsimp only;omega,by dsimp only;omega,he⟩ (by dsimp only;omega) rfl ⟨rfl,rfl,rfl,rfl,trivial⟩
 ·rw [hne (by omega),if_neg (by omega),if_neg (by omega)] at he
  exact zh.go (k + 1,nx) ⟨by dsimp only;omega,by dsimp only;omega,he⟩ (by dsimp only;omega) rfl ⟨rfl,rfl,rfl,rfl,trivial⟩
 rw [hen (by omega)] at he
 have hlo : z4 l xs = (List.range nx).all fun c=>zn (zf l) (jd xs c):=by unfold z4;rw [he]
 have hon:=fun c=>refOn_c nl xs c (by omega)
 have hri : ∀ c,Comp Tryz.prog 51 [ldA l,.sl false (bools (onB xs c))] (.bool (zn (zf l) (jd xs c))):=fun c=>wQ l o false (onB xs c) (by rw [onB,List.length_map];exact hx)
 generalize zf l = d at hlo hri
 refine Walk.loop zb [] (fun c : Nat=>c <= nx /\ ∀ j : Nat,j < c -> zn d (jd xs j) = true) (fun c=>[(1,.sl nl (ints xs)),(2,.pim (ldC l)),(5,natA nx),(7,natA c)]) (fun _=>[]) (fun c=>nx - c) 0 ⟨Nat.zero_le _,by omega⟩ rfl ⟨rfl,rfl,rfl,rfl,trivial⟩ ?_
 rintro c ⟨hc,hcs⟩
 conv=>whnf
 repeat' first|((with_reducible apply XBr.dec) <;> (intro h;first|(exfalso;omega)|((try simp only [List.length_map] at h);first|(exfalso;omega)|(conv=>whnf))))|fail
 ·apply Walk.drawX zb zk [] [] (hsK _) [_,_,_,_,_,_] (by kernel_rfl) rfl
  ·skip
   repeat' first|(with_reducible apply XAnd.mk)|((first|(with_reducible apply Chk.go)|(with_reducible apply ChkA.go));conv=>whnf)|(exact zg.mk rfl rfl)|(with_reducible exact trivial)|((first|(refine za.ret (hon _) ?_)|(refine za.ret (hri _) ?_));conv=>whnf)|fail
  ·skip
   repeat' first|(with_reducible apply XAnd.mk)|((first|(with_reducible apply ChkF.go)|(with_reducible apply ChkB.go));conv=>whnf)|(with_reducible exact trivial)|fail
  conv=>whnf
  repeat' first|(with_reducible apply XBr.not)|((with_reducible refine XInt.i64 (by omega) (by omega) ?_);conv=>whnf)|((with_reducible apply XBr.mk') <;> (intro h;conv=>whnf))|fail
  ·refine zh.go (c + 1) ⟨by omega,fun j hj=>?_⟩ (by omega) rfl ⟨rfl,rfl,rfl,rfl,trivial⟩
   by_cases e : j = c
   ·subst e;exact h
   ·exact hcs j (by omega)
  ·refine XOut.bool ?_
   rw [hlo];symm;rw [List.all_eq_false]
   exact ⟨c,by simp;omega,by simpa using h⟩
 ·refine XOut.bool ?_
  rw [hlo];symm;rw [List.all_eq_true]
  intro j hj;rw [List.mem_range] at hj
  exact hcs j (by omega)
end GA
end
section
namespace GA
open Go Go.RowKit Go.Proofs
theorem loaded1_c (x : Int) : Comp Tryz.prog 96 [.int .i64 x] (.bool (inB x 0 8)):=by
 refine Comp.body (T:=tab) (res:=[.tmp 2]) zb [] Tryz.func96 rfl (by kernel_rfl) Tryz.ntmps96 rfl (by simp only [List.length_cons,List.length_nil];decide) (by rfl) ?_;conv=>whnf
 refine za.ret (in_c _ _ _) ?_
 conv=>whnf
 exact XOut.bool rfl
def j4 (xs : List Int) (k : Nat) : List Nat:=(List.range 9).map fun j : Nat=>jd (xs.take k) (j : Int)
theorem wm (xs : List Int) (k : Nat) : (j4 xs k).length = 9:=by simp [j4]
theorem gG {xs : List Int} {k j : Nat} (h : j < 9) : (j4 xs k).getD j 0 = jd (xs.take k) j:=by
 unfold j4;rw [List.getD_eq_getElem?_getD,List.getElem?_map,List.getElem?_range h];rfl
theorem zeT {xs : List Int} {k i : Nat} (h : k < xs.length) (hi : i < 9) (hx : xs.getD k default = (i : Int)) : (j4 xs k).set i (jd (xs.take k) i ||| 2 ^ k) = j4 xs (k + 1):=by
 refine y5 (d:=0) (by rw [List.length_set,wm,wm]) fun j hj=>?_
 rw [List.length_set,wm] at hj
 rw [gG hj,zeN h,hx,List.getD_eq_getElem?_getD,List.getElem?_set]
 by_cases e : i = j
 ·subst e;rw [if_pos rfl,if_pos (by rw [wm];exact hi),if_pos rfl];rfl
 ·rw [if_neg e,if_neg (by omega),<- List.getD_eq_getElem?_getD,gG hj]
theorem zew {l : Ld} (o : LdOk l) : zn (zf l) 0 = true:=by
 have:=o.b1
 refine (gP o (Nat.two_pow_pos _)).2 ⟨?_,fun p _=>by simp,fun p _ h=>by simp at h⟩
 have : ∀ ws : List Nat,sumW ws 0 = 0:=by
  intro ws;induction ws with
  | nil=>rfl
  | cons w ws ih=>show (if 0 % 2 = 1 then w else 0) + sumW ws (0 / 2) = 0;rw [Nat.zero_div,ih];rfl
 rw [this];omega
theorem sets_all {l : Ld} (o : LdOk l) {xs : List Int} {nx : Nat} (he : jV 0 xs = some nx) (h9 : ∀ x ∈ xs,x < 9) : (j4 xs xs.length).all (fun s=>zn (zf l) s) = z4 l xs:=by
 obtain ⟨_,hlt,h3⟩:=zaW he
 have hn9:=h3 h9 (by omega)
 unfold z4 j4;rw [he,List.take_length]
 dsimp only
 rw [List.all_map,Bool.eq_iff_iff,List.all_eq_true,List.all_eq_true]
 constructor
 ·intro h j hj;rw [List.mem_range] at hj
  exact h j (List.mem_range.2 (by omega))
 ·intro h j hj
  by_cases hjn : j < nx
  ·exact h j (List.mem_range.2 hjn)
  ·show zn (zf l) (jd xs j) = true
   rw [zex (fun x hx e=>by have:=hlt x hx;omega)]
   exact zew o
def in8 (xs : List Int) : Bool:=xs.all (inB · 0 8)
def zY (l : Ld) (xs : List Int) : Int:=if zi l ≠ 0 then zi l else if xs.length ≠ l.sacks.length then 2 else if in8 xs = true then 0 else 3
def qS (l : Ld) (xs : List Int) : Bool:=decide (zY l xs = 0) && z4 l xs
theorem loaded_c (l : Ld) (nl : Bool) (xs : List Int) (o : LdW l) (hx : xs.length <= 100000) : Comp Tryz.prog 55 [ldA l,.sl nl (ints xs)] (.tup [.bool (qS l xs),.int .i64 (zY l xs)]):=by
 have ho:=k9 l o.w o.h1 o.h2 o.h3
 have hev:=wg nl xs 96 [] (inB · 0 8) rfl hx fun x _=>loaded1_c x
 have e1 : ((ints xs).length : Int) = xs.length:=by rw [List.length_map]
 have e2 : ((l.sacks.map skA).length : Int) = l.sacks.length:=by rw [List.length_map]
 unfold wY at ho
 refine Comp.body' (T:=tab) (res:=[.tmp 4,.tmp 5]) zb [] Tryz.func55 rfl (by kernel_rfl) Tryz.ntmps55 rfl (by simp only [List.length_cons,List.length_nil];decide) (by simp only [lowL,AV.low,ldL,lowI];rfl) ?_;conv=>whnf
 by_cases h0 : zi l = 0
 ·have ok:=(zB l).1 h0
  have hn:=ok.n
  have hp9:=pow9 hn
  rw [if_pos h0] at ho
  have hE : zY l xs = if xs.length ≠ l.sacks.length then 2 else if in8 xs = true then 0 else 3:=by unfold zY;rw [if_neg (by omega)]
  have hA : qS l xs = (decide ((if xs.length ≠ l.sacks.length then (2 : Int) else if in8 xs = true then 0 else 3) = 0) && z4 l xs):=by unfold qS;rw [hE]
  rw [hE,hA]
  change Comp _ _ _ (.bool (in8 xs)) at hev
  repeat' first|(with_reducible apply XBr.not)|((with_reducible apply XBr.bne) <;> (intro h;first|(exfalso;omega)|(conv=>whnf)))|((first|(refine za.ret ho ?_)|(refine za.ret hev ?_));conv=>whnf)|((with_reducible apply XBr.mk') <;> (intro h;conv=>whnf))|fail
  ·rw [if_pos (by omega)];exact ⟨Froz.low rfl⟩
  ·rw [if_neg (by omega),if_pos h]
   have h9 : ∀ x ∈ xs,0 <= x /\ x < 9:=fun x hm=>by
    have:=(List.all_eq_true.1 h) x hm;unfold inB at this;simp at this;omega
   have hlo : ∀ nx,jV 0 xs = some nx -> (j4 xs xs.length).all (fun s=>zn (zf l) s) = z4 l xs:=fun nx he=>sets_all ok he (fun x hm=>(h9 x hm).2)
   have hno : jV 0 xs = none -> z4 l xs = false:=fun he=>by unfold z4;rw [he]
   have hrt:=fun s hs=>vJ (zf l) (yG ok) s hs
   generalize zf l = d at hlo hrt
   generalize z4 l xs = lb at hlo hno
   refine Walk.loop zb [] (fun p : Nat × Nat=>p.1 <= xs.length /\ p.2 <= p.1 /\ jV 0 xs = jV p.2 (xs.drop p.1)) (fun p=>[(6,.pim (zy d)),(8,.ptr 0 0),(32,.sl nl (ints xs)),(33,natA xs.length),(9,natA p.2),(34,natA p.1)]) (fun p=>[.cells (nats (j4 xs p.1))]) (fun p=>xs.length - p.1) (0,0) ⟨Nat.zero_le _,Nat.le_refl _,rfl⟩ ?_ ⟨rfl,rfl,rfl,congrArg (fun n=>some (AV.int .i64 n)) e1,rfl,rfl,trivial⟩ ?_
   ·have : j4 xs 0 = List.replicate 9 0:=by unfold j4;rw [List.take_zero];decide
    show [Blk.cells (nats (j4 xs 0))] = _
    rw [this];rfl
   rintro ⟨k,nx⟩ ⟨hk,hnk,he⟩
   dsimp only at hk hnk he ⊢
   have hne:=zaT (nx:=nx) (xs:=xs) (k:=k)
   have hen:=zbH (nx:=nx) (xs:=xs) (k:=k)
   have sl:=wm xs k
   have sg:=fun j hj=>gG (xs:=xs) (k:=k) (j:=j) hj
   have sn:=fun i h hi hx=>zeT (xs:=xs) (k:=k) (i:=i) h hi hx
   have sb : ∀ j : Nat,jd (xs.take k) (j : Int) < 512:=fun j=>by
    have h1:=setOn_lt (xs.take k) (j : Int)
    have h2 : 2 ^ (xs.take k).length <= 512:=Nat.le_trans (Nat.pow_le_pow_right (n:=2) (by omega) (show (xs.take k).length <= 9 by rw [List.length_take];omega)) (by decide)
    omega
   generalize hS : j4 xs k = S at sl sg sn
   conv=>whnf
   have p8 : k < xs.length -> 2 ^ k <= 256:=fun hk=>Nat.pow_le_pow_right (n:=2) (by omega) (show k <= 8 by omega)
   have p0 : 0 < 2 ^ k:=Nat.two_pow_pos k
   have xk : k < xs.length -> 0 <= xs.getD k default /\ xs.getD k default < 9:=fun hk=>h9 _ (zu hk)
   repeat' first|((with_reducible apply XBr.dec) <;> (intro h;first|(exfalso;omega)|((try simp only [List.length_map] at h);first|(exfalso;omega)|(conv=>whnf))))|((with_reducible apply XBr.beq) <;> (intro h;first|(exfalso;omega)|(conv=>whnf)))|((with_reducible refine XInt.i64 (by omega) (by omega) ?_);conv=>whnf)|((with_reducible refine zj.mk ?_ ?_);(first | omega | rfl | decide|exact ⟨rfl,by decide,rfl⟩|exact zz _|exact zp _|exact zq _|(unfold Room;constructor <;> ((try simp) <;> omega))|exact ⟨rfl,by simp only [List.length_map],by unfold Room;constructor <;> ((try simp) <;> omega)⟩|exact ⟨by omega,by omega,by unfold Room;constructor <;> ((try simp) <;> omega)⟩);conv=>whnf)|(((with_reducible refine XIx.nat ?_ ?_ ?_);omega;(intro _;rfl));conv=>whnf)|fail
   ·rw [hne (by omega),if_pos (by omega)] at he
    rw [hno he];exact ⟨Froz.low rfl⟩
   ·have hv : xs.getD k default = nx:=h
    rw [hne (by omega),if_neg (by omega),if_pos hv] at he
    obtain ⟨i,hi⟩:=Int.eq_ofNat_of_zero_le (xk (by omega)).1
    have i9 : i < 9:=by have:=(xk (by omega)).2;omega
    have sgi:=sg i i9
    have sbi:=sb i
    rw [<- sgi] at sbi
    have hor : ior .i64 ((S.getD i 0 : Nat) : Int) ((2 ^ k : Nat) : Int) = ((S.getD i 0 ||| 2 ^ k : Nat) : Int):=wP (by omega) (by have:=p8 (by omega);omega)
    have sni:=sn i (by omega) i9 hi
    rw [<- sgi] at sni
    rw [hi]
    apply Walk.drawX zb zk [] [7] (hsC [[.cells (nats S)],[.cells (nats (S.set i (S.getD i 0 ||| 2 ^ k)))]]) [_,_,_,_,_,_,_,_] (by kernel_rfl) rfl
    ·skip
     repeat' first|((with_reducible refine zj.mk ?_ ?_);(first | omega | rfl | decide|exact ⟨rfl,by decide,rfl⟩|exact zz _|exact zp _|exact zq _|(unfold Room;constructor <;> ((try simp) <;> omega))|exact ⟨rfl,by simp only [List.length_map],by unfold Room;constructor <;> ((try simp) <;> omega)⟩|exact ⟨by omega,by omega,by unfold Room;constructor <;> ((try simp) <;> omega)⟩);conv=>whnf)|(with_reducible apply XAnd.mk)|((first|(with_reducible apply Chk.go)|(with_reducible apply ChkA.go));conv=>whnf)|(exact zg.mk rfl rfl)|(with_reducible exact trivial)|((first|((with_reducible refine XArr.ptr ?_ ?_ ?_);omega;omega)|(refine XInt.eq (y:=((2 ^ k : Nat) : Int)) (kw (by omega)) (by omega) (by have:=p8 (by omega);omega) ?_)|(refine wG (i:=i) (by omega) ?_)|(refine gT (i:=i) (S.getD i 0 ||| 2 ^ k) hor (by omega) ?_));conv=>whnf)|fail
    ·skip
     repeat' first|(with_reducible apply XAnd.mk)|((first|(with_reducible apply ChkF.go)|(with_reducible apply ChkB.go));conv=>whnf)|(with_reducible exact trivial)|fail
    conv=>whnf
    repeat' first|((with_reducible refine XInt.i64 (by omega) (by omega) ?_);conv=>whnf)|fail
    rw [sni]
    exact zh.go (k + 1,nx + 1) ⟨by dsimp only;omega,by dsimp only;omega,he⟩ (by dsimp only;omega) rfl ⟨rfl,rfl,rfl,rfl,rfl,rfl,trivial⟩
   ·have hv : ¬ xs.getD k default = nx:=h
    rw [hne (by omega),if_neg (by omega),if_neg hv] at he
    obtain ⟨i,hi⟩:=Int.eq_ofNat_of_zero_le (xk (by omega)).1
    have i9 : i < 9:=by have:=(xk (by omega)).2;omega
    have sgi:=sg i i9
    have sbi:=sb i
    rw [<- sgi] at sbi
    have hor : ior .i64 ((S.getD i 0 : Nat) : Int) ((2 ^ k : Nat) : Int) = ((S.getD i 0 ||| 2 ^ k : Nat) : Int):=wP (by omega) (by have:=p8 (by omega);omega)
    have sni:=sn i (by omega) i9 hi
    rw [<- sgi] at sni
    rw [hi]
    apply Walk.drawX zb zk [] [7] (hsC [[.cells (nats S)],[.cells (nats (S.set i (S.getD i 0 ||| 2 ^ k)))]]) [_,_,_,_,_,_,_,_] (by kernel_rfl) rfl
    ·skip
     repeat' first|((with_reducible refine zj.mk ?_ ?_);(first | omega | rfl | decide|exact ⟨rfl,by decide,rfl⟩|exact zz _|exact zp _|exact zq _|(unfold Room;constructor <;> ((try simp) <;> omega))|exact ⟨rfl,by simp only [List.length_map],by unfold Room;constructor <;> ((try simp) <;> omega)⟩|exact ⟨by omega,by omega,by unfold Room;constructor <;> ((try simp) <;> omega)⟩);conv=>whnf)|(with_reducible apply XAnd.mk)|((first|(with_reducible apply Chk.go)|(with_reducible apply ChkA.go));conv=>whnf)|(exact zg.mk rfl rfl)|(with_reducible exact trivial)|((first|((with_reducible refine XArr.ptr ?_ ?_ ?_);omega;omega)|(refine XInt.eq (y:=((2 ^ k : Nat) : Int)) (kw (by omega)) (by omega) (by have:=p8 (by omega);omega) ?_)|(refine wG (i:=i) (by omega) ?_)|(refine gT (i:=i) (S.getD i 0 ||| 2 ^ k) hor (by omega) ?_));conv=>whnf)|fail
    ·skip
     repeat' first|(with_reducible apply XAnd.mk)|((first|(with_reducible apply ChkF.go)|(with_reducible apply ChkB.go));conv=>whnf)|(with_reducible exact trivial)|fail
    conv=>whnf
    repeat' first|((with_reducible refine XInt.i64 (by omega) (by omega) ?_);conv=>whnf)|fail
    rw [sni]
    exact zh.go (k + 1,nx) ⟨by dsimp only;omega,by dsimp only;omega,he⟩ (by dsimp only;omega) rfl ⟨rfl,rfl,rfl,rfl,rfl,rfl,trivial⟩
   ·obtain rfl : k = xs.length:=by omega
    rw [hen rfl] at he
    have hl:=hlo nx he
    rw [hS] at hl
    have hlw : lowL 0 (nats S) = true:=lowN S
    have hcov : (((nats S).drop (0 + Int.toNat 0 * 1)).take ((9 : Nat) - 0 : Int).toNat) = ints (S.map fun n : Nat=>(n : Int)):=by
     refine Eq.trans ?_ (ww S)
     show ((nats S).drop 0).take 9 = _
     rw [List.drop_zero,List.take_of_length_le (by rw [List.length_map,sl];decide)]
    have hall : (S.map fun n : Nat=>(n : Int)).all (fun x=>zn d x.toNat) = lb:=by
     rw [List.all_map,<- hl];rfl
    refine za.lend (every_bf false (S.map fun n : Nat=>(n : Int)) 87 [.pim (zy d)] (fun x=>zn d x.toNat) (by simp only [lowL,AV.low,yn];rfl) (by rw [List.length_map,sl];omega) fun x hm=>?_) (.cons ?_ (.cons (Froz.low (by simp only [AV.low,lowL,yn];rfl)) .nil)) rfl ?_
    ·obtain ⟨m,hm',rfl⟩:=List.mem_map.1 hm
     obtain ⟨j,hj,rfl⟩:=List.mem_iff_getElem.1 hm'
     have h1:=sg j (by omega)
     rw [List.getD_eq_getElem?_getD,List.getElem?_eq_getElem hj,Option.getD_some] at h1
     have:=sb j
     exact hrt S[j] (by omega)
    ·rw [<- hcov]
     exact Froz.osC rfl (by rw [List.length_map,sl];decide) hlw
    rw [hall]
    conv=>whnf
    exact ⟨Froz.low rfl⟩
  ·rw [if_neg (by omega),if_neg (by rw [h];simp)];exact ⟨Froz.low rfl⟩
 ·have hE : zY l xs = zi l:=by unfold zY;rw [if_pos h0]
  have hA : qS l xs = false:=by unfold qS;rw [hE,decide_eq_false h0];rfl
  rw [if_neg h0] at ho
  rw [hE,hA]
  generalize zi l = e at h0 ho
  repeat' first|((with_reducible apply XBr.bne) <;> (intro h;first|(exfalso;omega)|(conv=>whnf)))|((refine za.ret ho ?_);conv=>whnf)|fail
  exact ⟨Froz.low rfl⟩
end GA
end
section
namespace GA
open Go Go.RowKit Go.Proofs
theorem boolN_set {n s i : Nat} (hi : i < n) : (z8 n s).set i true = z8 n (s ||| 2 ^ i):=by
 refine zaQ (by rw [List.length_set,z5]) fun k hk=>?_
 rw [kh,Nat.testBit_or,Nat.testBit_two_pow,z5,jB hk]
 by_cases h : i = k
 ·subst h;simp [hi]
 ·simp [h]
theorem zeE (n : Nat) : z8 n 0 = List.replicate n false:=by
 refine (zaQ (by simp) fun k hk=>?_).symm
 rw [Nat.zero_testBit,List.getD_eq_getElem?_getD,List.getElem?_replicate,if_pos hk];rfl
def limE (w : Int) (xs : List Int) : Int:=if w ≠ 0 then w else if in8 xs = true then 0 else 3
theorem wD {w : Int} {xs : List Int} {k : Nat} (h : k < xs.length) : limE w (xs.take (k + 1)) = if limE w (xs.take k) = 0 /\ ¬ (0 <= xs.getD k default /\ xs.getD k default < 9) then 3 else limE w (xs.take k):=by
 have e : in8 (xs.take (k + 1)) = (in8 (xs.take k) && inB (xs.getD k default) 0 8):=by unfold in8;rw [zS h,List.all_append];simp
 generalize xs.getD k default = v at e ⊢
 have hv : inB v 0 8 = decide (0 <= v /\ v < 9):=by unfold inB;rw [Bool.eq_iff_iff];simp;omega
 unfold limE;rw [e,hv]
 by_cases hw : w = 0
 ·subst hw
  simp only [ne_eq,not_true_eq_false,if_false]
  cases h1 : in8 (xs.take k)
  ·simp
  ·by_cases h2 : 0 <= v /\ v < 9
   ·simp [h2]
   ·simp [h2]
 ·rw [if_pos hw,if_pos hw,if_neg (by omega)]
theorem w9 {w : Int} {xs : List Int} {k : Nat} (h : k = xs.length) : limE w (xs.take k) = limE w xs:=by rw [h,List.take_length]
theorem ve (w : Int) : limE w [] = w:=by
 unfold limE;split
 ·rfl
 ·rename_i h;simp at h;rw [h];rfl
set_option maxHeartbeats 2000000 in
theorem fu (l : Ld) (hw : l.nla = true -> l.apart = []) (nc : Bool) (cs : List Int) (nx : Bool) (xs : List Int) : Comp Tryz.prog 13 [ldA l,.sl nc (ints cs),.sl nx (ints xs)] (.bool true):=by
 have hgr:=qf l
 have ec : ((ints cs).length : Int) = cs.length:=by rw [List.length_map]
 have ex : ((ints xs).length : Int) = xs.length:=by rw [List.length_map]
 refine Comp.body' (T:=tab) (res:=[.tmp 6]) zb [] Tryz.func13 rfl (by kernel_rfl) Tryz.ntmps13 rfl (by simp only [List.length_cons,List.length_nil];decide) (by simp only [lowL,AV.low,ldL,lowI];rfl) ?_;conv=>whnf
 by_cases hg : jg l = true
 ·rw [hg] at hgr
  repeat' first|((first|(with_reducible apply XBr.tt)|(refine za.ret hgr ?_)|(refine za.ret zx ?_));conv=>whnf)|fail
  exact XOut.bool rfl
 ·rw [Bool.not_eq_true] at hg
  rw [hg] at hgr
  have hgl : l.sacks.length <= 14 /\ l.apart.length <= 12 /\ l.wth.length <= 12:=by
   unfold jg at hg
   simp only [Bool.or_eq_false_iff,decide_eq_false_iff_not] at hg
   omega
  have lw : LdW l:=⟨hw,by omega,by omega,by omega⟩
  have how:=own_c l lw
  have hth:=vi l lw
  have hsm:=zao l lw
  have ow : LdW (ownL l):=⟨nofun,lw.h1,lw.h2,lw.h3⟩
  have tw : LdW (thL l):=⟨hw,lw.h1,lw.h2,lw.h3⟩
  repeat' first|((first|(with_reducible apply XBr.tt)|(with_reducible apply XBr.ff));conv=>whnf)|((with_reducible apply XBr.dec) <;> (intro h;first|(exfalso;omega)|((try simp only [List.length_map] at h);first|(exfalso;omega)|(conv=>whnf))))|((first|(refine za.ret hgr ?_)|(refine za.ret zx ?_));conv=>whnf)|fail
  ·exact XOut.bool rfl
  ·exact XOut.bool rfl
  have hcs : cs.length <= 14:=by omega
  have hxs : xs.length <= 14:=by omega
  have hdc:=vK nc cs (by omega)
  have hdl:=vK nx xs (by omega)
  refine Walk.place (Walk.place ?_)
  apply Walk.drawX zb zk [] [8,9,10,13] (fun fl=>match fl with
   | [a,b,x,y]=>[(bif a then .cells (bif x then ldC (ownL l) else [.int .i64 0,.int .i64 0,.sl true [],.sl true [],.sl true []]) else .free),
     (bif b then .cells (bif y then ldC (thL l) else [.int .i64 0,.int .i64 0,.sl true [],.sl true [],.sl true []]) else .free)]
   | _=>[]) [_,_,_,_,_,_,_,_,.ptr 0 0,.ptr 1 0,_,_,_,_] (by kernel_rfl) rfl
  ·skip
   repeat' first|(with_reducible apply XAnd.mk)|((first|(with_reducible apply Chk.go)|(with_reducible apply ChkA.go));conv=>whnf)|(exact zg.mk rfl rfl)|(with_reducible exact trivial)|((first|(refine za.ret how ?_)|(refine za.ret hth ?_)|(refine za.ret hdc ?_)|(refine za.ret hdl ?_));conv=>whnf)|(first|((refine yy.at 0 rfl ?_);(conv=>whnf);exact zg.mk rfl rfl)|((refine yy.at 1 rfl ?_);(conv=>whnf);exact zg.mk rfl rfl))|fail
  ·skip
   repeat' first|(with_reducible apply XAnd.mk)|((first|(with_reducible apply Chk.go)|(with_reducible apply ChkF.go)|(with_reducible apply ChkB.go));conv=>whnf)|(exact zg.mk rfl rfl)|(with_reducible exact trivial)|((first|(refine za.ret how ?_)|(refine za.ret hth ?_)|(refine za.ret hdc ?_)|(refine za.ret hdl ?_));conv=>whnf)|(first|((refine yy.at 0 rfl ?_);(conv=>whnf);exact zg.mk rfl rfl)|((refine yy.at 1 rfl ?_);(conv=>whnf);exact zg.mk rfl rfl))|fail
  conv=>whnf
  have hrc : Comp Tryz.prog 45 [ldA (thL l)] (.int .i64 (zi l)):=kQ (thL l) tw
  have hR:=rightX_c (ownL l) false cs ow (by omega)
  have hL:=loaded_c (ownL l) false xs ow (by omega)
  have hRE : v4 (ownL l) cs = if zi l ≠ 0 then zi l else (yF l.sacks.length 0 cs).1:=rfl
  have hLE : zY (ownL l) xs = if zi l ≠ 0 then zi l else if xs.length ≠ l.sacks.length then 2 else if in8 xs = true then 0 else 3:=rfl
  by_cases h0 : zi l = 0
  ·have ok:=(zB l).1 h0
   have tok : LdOk (thL l):=zam ok l.sacks.isEmpty l.nla l.nlw
   have hn:=ok.n
   have hp9:=pow9 hn
   have hrt : ∀ s,s < 2 ^ l.sacks.length -> Comp Tryz.prog 51 [ldA (thL l),.sl false (bools (z8 l.sacks.length s))] (.bool (zn (zf l) s)):=fun s hs=>by
    have e:=wQ (thL l) tok false (z8 l.sacks.length s) (z5 _ _)
    rw [v3 hs,show zn (zf (thL l)) s = zn (zf l) s from kX l _ _ _ s] at e;exact e
   have hlo : xs.length = l.sacks.length -> Comp Tryz.prog 56 [ldA (thL l),.sl nx (ints xs)] (.bool (z4 l xs)):=fun h=>by
    have e:=zef (thL l) tok nx xs h
    rwa [show z4 (thL l) xs = z4 l xs from by unfold z4;simp only [w5,kX]] at e
   have hRA : wJ (ownL l) cs = (decide ((yF l.sacks.length 0 cs).1 = 0) && zn (zf l) (yF l.sacks.length 0 cs).2):=by
    unfold wJ;rw [hRE,if_neg (by omega)]
    rw [show zn (zf (ownL l)) = zn (zf l) from funext fun s=>kX l _ _ _ s];rfl
   have hLA : qS (ownL l) xs = (decide (zY (ownL l) xs = 0) && z4 l xs):=by
    unfold qS
    rw [show z4 (ownL l) xs = z4 l xs from by unfold z4;simp only [j2,kX]]
   rw [hRE,if_neg (by omega),hRA] at hR
   rw [hLA] at hL
   rw [if_neg (by omega)] at hLE
   rw [h0] at hrc
   clear hRE hRA hLA
   generalize zf l = d at hrt hR
   generalize z4 l xs = lb at hlo hL
   have hce : yF l.sacks.length 0 cs = yF l.sacks.length 0 (cs.drop 0):=by rw [List.drop_zero]
   generalize hcp : yF l.sacks.length 0 cs = ce at hce hR
   obtain ⟨re,rs⟩:=ce
   dsimp only at hR
   generalize hn' : l.sacks.length = n at hn hp9 hrt hce
   have esk : ((l.sacks.map skA).length : Int) = n:=by rw [List.length_map,hn']
   repeat' first|((with_reducible apply XBr.beq) <;> (intro h;first|(exfalso;omega)|(conv=>whnf)))|((with_reducible refine zj.mk ?_ ?_);(first | omega | rfl | decide|exact ⟨rfl,by decide,rfl⟩|exact zz _|exact zp _|exact zq _|(unfold Room;constructor <;> ((try simp) <;> omega))|exact ⟨rfl,by simp only [List.length_map],by unfold Room;constructor <;> ((try simp) <;> omega)⟩|exact ⟨by omega,by omega,by unfold Room;constructor <;> ((try simp) <;> omega)⟩);conv=>whnf)|((first|(refine za.ret hrc ?_)|(refine za.ret hR ?_));conv=>whnf)|fail
   refine Walk.loop zb [] (fun p : Nat × Int × Nat=>p.1 <= cs.length /\ p.2.2 < 2 ^ n /\ ((p.2.1 = 0 /\ (re,rs) = yF n p.2.2 (cs.drop p.1)) \/ (p.2.1 ≠ 0 /\ re = p.2.1))) (fun p=>[(1,.sl nc (ints cs)),(2,.sl nx (ints xs)),(3,.pim (ldC l)),(6,.bool false),(7,.ptr 0 0),(8,.sl false (ints cs)),(9,.sl false (ints xs)),(10,.ptr 1 0),(11,.int .i64 0),(12,.bool (decide (re = 0) && zn d rs)),(13,.int .i64 re),(16,.gr 2 n),(57,.sl nc (ints cs)),(58,natA cs.length),(14,.int .i64 p.2.1),(59,natA p.1)])
    (fun p=>[.cells (ldC (ownL l)),.cells (ldC (thL l)),.grow 4 false (bools (z8 n p.2.2))]) (fun p=>cs.length - p.1) (0,0,0) ⟨Nat.zero_le _,hp9.2,.inl ⟨rfl,hce⟩⟩ ?_ ⟨rfl,rfl,rfl,rfl,rfl,rfl,rfl,rfl,rfl,rfl,rfl,?_,rfl,congrArg (fun n=>some (AV.int .i64 n)) ec,rfl,rfl,trivial⟩ ?_
   ·dsimp only
    rw [zeE,show n = (((l.sacks.map skA).length : Int)).toNat by omega]
    congr 4;simp
   ·exact congrArg (fun n=>some (AV.gr 2 n)) (by omega)
   rintro ⟨k,u,s⟩ ⟨hk,hs,hu⟩
   dsimp only at hk hs hu ⊢
   have hne:=zan (n:=n) (s:=s) (xs:=cs) (k:=k)
   have hen:=zbS (n:=n) (s:=s) (xs:=cs) (k:=k)
   have hbl:=z5 n s
   have hbg:=fun i hi=>jB (n:=n) (s:=s) (k:=i) hi
   have hbs:=fun i hi=>boolN_set (n:=n) (s:=s) (i:=i) hi
   have hrs:=hrt s hs
   generalize hbn : z8 n s = bs at hbl hbg hbs hrs
   conv=>whnf
   repeat' first|((first|(with_reducible apply XBr.tt)|(with_reducible apply XBr.ff));conv=>whnf)|((with_reducible apply XBr.dec) <;> (intro h;first|(exfalso;omega)|((try simp only [List.length_map] at h);first|(exfalso;omega)|(conv=>whnf))))|((with_reducible apply XBr.beq) <;> (intro h;first|(exfalso;omega)|(conv=>whnf)))|((with_reducible apply XBr.bne) <;> (intro h;first|(exfalso;omega)|(conv=>whnf)))|((first|(with_reducible refine XInt.i64 (by omega) (by omega) ?_)|((with_reducible refine XIx.nat ?_ ?_ ?_);omega;(intro _;rfl))|(refine zj.mk (by rw [List.length_map];exact hbl) ?_)|(refine zj.mk ⟨by rw [List.length_map];exact hbl,rfl,by omega,by omega⟩ ?_)|(refine XGet.map hbl.symm (by omega) ?_)|(refine XPut.bools bs _ rfl hbl.symm (by omega) ?_));conv=>whnf)|((with_reducible apply XBr.mk') <;> (intro h;conv=>whnf))|fail
   ·have hu' : re = u:=hu.elim (fun e=>absurd e.1 h) (fun e=>e.2)
    exact zh.go (k + 1,u,s) ⟨by dsimp only;omega,hs,.inr ⟨h,hu'⟩⟩ (by dsimp only;omega) (by dsimp only;rw [hbn]) ⟨rfl,rfl,rfl,rfl,rfl,rfl,rfl,rfl,rfl,rfl,rfl,rfl,rfl,rfl,rfl,rfl,trivial⟩
   ·have he : (re,rs) = yF n s (cs.drop k):=hu.elim (fun e=>e.2) (fun e=>absurd (by assumption) e.1)
    rw [hne (by omega),if_pos (by omega)] at he
    refine zh.go (k + 1,1,s) ⟨by dsimp only;omega,hs,.inr ⟨by dsimp only;omega,?_⟩⟩ (by dsimp only;omega) (by dsimp only;rw [hbn]) ⟨rfl,rfl,rfl,rfl,rfl,rfl,rfl,rfl,rfl,rfl,rfl,rfl,rfl,rfl,rfl,rfl,trivial⟩
    exact congrArg Prod.fst he
   ·have he : (re,rs) = yF n s (cs.drop k):=hu.elim (fun e=>e.2) (fun e=>absurd (by assumption) e.1)
    rw [hne (by omega),if_pos (by omega)] at he
    refine zh.go (k + 1,1,s) ⟨by dsimp only;omega,hs,.inr ⟨by dsimp only;omega,?_⟩⟩ (by dsimp only;omega) (by dsimp only;rw [hbn]) ⟨rfl,rfl,rfl,rfl,rfl,rfl,rfl,rfl,rfl,rfl,rfl,rfl,rfl,rfl,rfl,rfl,trivial⟩
    exact congrArg Prod.fst he
   ·have he : (re,rs) = yF n s (cs.drop k):=hu.elim (fun e=>e.2) (fun e=>absurd (by assumption) e.1)
    have hb : bs.getD (cs.getD k default).toNat false = true:=h
    rw [hbg _ (by omega)] at hb
    rw [hne (by omega),if_neg (by omega),if_pos hb] at he
    refine zh.go (k + 1,5,s) ⟨by dsimp only;omega,hs,.inr ⟨by dsimp only;omega,?_⟩⟩ (by dsimp only;omega) (by dsimp only;rw [hbn]) ⟨rfl,rfl,rfl,rfl,rfl,rfl,rfl,rfl,rfl,rfl,rfl,rfl,rfl,rfl,rfl,rfl,trivial⟩
    exact congrArg Prod.fst he
   ·have he : (re,rs) = yF n s (cs.drop k):=hu.elim (fun e=>e.2) (fun e=>absurd (by assumption) e.1)
    have hu0 : u = 0:=by assumption
    have hb : bs.getD (cs.getD k default).toNat false = false:=h
    rw [hbg _ (by omega)] at hb
    rw [hne (by omega),if_neg (by omega),if_neg (by rw [hb];simp)] at he
    refine zh.go (k + 1,0,s ||| 2 ^ (cs.getD k default).toNat) ⟨by dsimp only;omega,or_lt hs (by omega),.inl ⟨rfl,he⟩⟩ (by dsimp only;omega) (by dsimp only;rw [<- hbs _ (by omega)]) ⟨rfl,rfl,rfl,rfl,rfl,rfl,rfl,rfl,rfl,rfl,rfl,rfl,rfl,rfl,?_,rfl,trivial⟩
    exact congrArg (fun z=>some (AV.int .i64 z)) hu0
   ·have he : (re,rs) = yF n s (cs.drop k):=hu.elim (fun e=>e.2) (fun e=>absurd (by assumption) e.1)
    have hu0 : u = 0:=by assumption
    rw [hen (by omega)] at he
    obtain ⟨rfl,rfl⟩:=Prod.mk.inj he
    refine za.lend hrs (.cons (Froz.low (ldL _)) (.cons (Froz.grow (i:=2) rfl (by rw [List.length_map];exact hbl) (jI _)) .nil)) rfl ?_
    conv=>whnf
    repeat' first|((first|(with_reducible apply XBr.tt)|(with_reducible apply XBr.ff));conv=>whnf)|((with_reducible apply XBr.bne) <;> (intro h;first|(exfalso;omega)|(conv=>whnf)))|((with_reducible apply XBr.mk') <;> (intro h;conv=>whnf))|fail
    ·exfalso
     rw [decide_eq_true rfl] at h;simp at h
    ·by_cases hlen : xs.length = n
     ·skip
      obtain ⟨w1,hw1⟩ : ∃ w1 : Int,w1 = 0:=⟨0,rfl⟩
      have hle : zY (ownL l) xs = limE w1 xs:=by rw [hLE,if_neg (by omega),hw1];unfold limE;rw [if_neg (show ¬ (0 : Int) ≠ 0 by omega)]
      have hLo : zY (ownL l) xs = 0 -> Comp Tryz.prog 56 [ldA (thL l),.sl nx (ints xs)] (.bool (decide (zY (ownL l) xs = 0) && lb)):=fun h=>by rw [decide_eq_true h];exact hlo (by omega)
      have hla : zY (ownL l) xs ≠ 0 -> (decide (zY (ownL l) xs = 0) && lb) = false:=fun h=>by rw [decide_eq_false h];rfl
      generalize (decide (zY (ownL l) xs = 0) && lb) = la at hL hLo hla
      generalize zY (ownL l) xs = le at hL hLo hla hle
      repeat' first|((with_reducible apply XBr.tt);conv=>whnf)|((with_reducible apply XBr.beq) <;> (intro h;first|(exfalso;omega)|(conv=>whnf)))|((with_reducible apply XBr.bne) <;> (intro h;first|(exfalso;omega)|(conv=>whnf)))|((refine za.ret hL ?_);conv=>whnf)|fail
      all_goals first|(exfalso;omega) | skip
      refine Walk.loop zb [] (fun k : Nat=>k <= xs.length) (fun k=>[(1,.sl nc (ints cs)),(2,.sl nx (ints xs)),(3,.pim (ldC l)),(6,.bool false),(7,.ptr 0 0),(8,.sl false (ints cs)),(9,.sl false (ints xs)),(10,.ptr 1 0),(12,.bool la),(13,.int .i64 le),(115,.sl nx (ints xs)),(116,natA xs.length),(11,.int .i64 (limE w1 (xs.take k))),(117,natA k)]) (fun _=>_) (fun k=>xs.length - k) 0 (Nat.zero_le _) rfl ⟨rfl,rfl,rfl,rfl,rfl,rfl,rfl,rfl,rfl,rfl,rfl,congrArg (fun n=>some (AV.int .i64 n)) ex,?_,rfl,trivial⟩ ?_
      ·show some (AV.int .i64 _) = some (AV.int .i64 (limE w1 (xs.take 0)))
       rw [List.take_zero,ve,hw1]
      intro k hk
      have hnx:=wD (w:=w1) (xs:=xs) (k:=k)
      have hal:=w9 (w:=w1) (xs:=xs) (k:=k)
      rw [<- hle] at hal
      generalize limE w1 (xs.take k) = q at hnx hal
      conv=>whnf
      repeat' first|((first|(with_reducible apply XBr.tt)|(with_reducible apply XBr.ff));conv=>whnf)|((with_reducible apply XBr.dec) <;> (intro h;first|(exfalso;omega)|((try simp only [List.length_map] at h);first|(exfalso;omega)|(conv=>whnf))))|((with_reducible apply XBr.beq) <;> (intro h;first|(exfalso;omega)|(conv=>whnf)))|((first|(with_reducible refine XInt.i64 (by omega) (by omega) ?_)|((with_reducible refine XIx.nat ?_ ?_ ?_);omega;(intro _;rfl)));conv=>whnf)|fail
      iterate 4
       (focus
        refine zh.go (k + 1) (by omega) (by omega) rfl ⟨rfl,rfl,rfl,rfl,rfl,rfl,rfl,rfl,rfl,rfl,rfl,rfl,?_,rfl,trivial⟩
        show some (AV.int .i64 _) = some (AV.int .i64 (limE w1 (xs.take (k + 1))))
        rw [hnx (by omega)]
        first | rw [if_pos ⟨by omega,by omega⟩] | rw [if_neg (by omega)])
      have hql:=hal (by omega)
      clear hnx hal hw1
      subst hql
      refine Walk.norm zb [] [(1,.sl nc (ints cs)),(2,.sl nx (ints xs)),(3,.pim (ldC l)),(6,.bool false),(7,.ptr 0 0),(8,.sl false (ints cs)),(9,.sl false (ints xs)),(10,.ptr 1 0),(11,.int .i64 q),(12,.bool la),(13,.int .i64 q)] ⟨rfl,rfl,rfl,rfl,rfl,rfl,rfl,rfl,rfl,rfl,rfl,trivial⟩ ?_
      conv=>whnf
      by_cases hq : q = 0
      ·have hLq:=hLo hq
       subst hq
       repeat' first|((first|(with_reducible apply XBr.tt)|(with_reducible apply XBr.ff));conv=>whnf)|((with_reducible apply XBr.beq) <;> (intro h;first|(exfalso;omega)|(conv=>whnf)))|((first|(refine za.ret hLq ?_)|(refine za.ret hsm ?_)|(refine za.ret (eqI false nc cs (by omega)) ?_)|(refine za.ret (eqI false nx xs (by omega)) ?_)|(refine za.ret zx ?_));conv=>whnf)|((with_reducible apply XBr.mk') <;> (intro h;conv=>whnf))|fail
       all_goals first|exact XOut.bool rfl|(exfalso;exact absurd rfl (by assumption))|(exfalso;cases la <;> simp at h;done) | skip
      ·have hLq:=hla hq
       subst hLq
       repeat' first|((first|(with_reducible apply XBr.tt)|(with_reducible apply XBr.ff));conv=>whnf)|((with_reducible apply XBr.beq) <;> (intro h;first|(exfalso;omega)|(conv=>whnf)))|((first|(refine za.ret hsm ?_)|(refine za.ret (eqI false nc cs (by omega)) ?_)|(refine za.ret (eqI false nx xs (by omega)) ?_)|(refine za.ret zx ?_));conv=>whnf)|((with_reducible apply XBr.mk') <;> (intro h;conv=>whnf))|fail
       all_goals first|exact XOut.bool rfl|(exfalso;exact absurd rfl (by assumption))|(exfalso;simp at h;done) | skip
     ·skip
      obtain ⟨w1,hw1⟩ : ∃ w1 : Int,w1 = 2:=⟨2,rfl⟩
      have hle : zY (ownL l) xs = limE w1 xs:=by rw [hLE,if_pos (by omega)];unfold limE;rw [if_pos (by omega)];omega
      have hl2 : zY (ownL l) xs = 2:=by rw [hLE,if_pos (by omega)]
      have hLo : zY (ownL l) xs = 0 -> Comp Tryz.prog 56 [ldA (thL l),.sl nx (ints xs)] (.bool (decide (zY (ownL l) xs = 0) && lb)):=fun h=>by omega
      have hla : zY (ownL l) xs ≠ 0 -> (decide (zY (ownL l) xs = 0) && lb) = false:=fun h=>by rw [decide_eq_false h];rfl
      generalize (decide (zY (ownL l) xs = 0) && lb) = la at hL hLo hla
      generalize zY (ownL l) xs = le at hL hLo hla hle hl2
      repeat' first|((with_reducible apply XBr.tt);conv=>whnf)|((with_reducible apply XBr.beq) <;> (intro h;first|(exfalso;omega)|(conv=>whnf)))|((with_reducible apply XBr.bne) <;> (intro h;first|(exfalso;omega)|(conv=>whnf)))|((refine za.ret hL ?_);conv=>whnf)|fail
      all_goals first|(exfalso;omega) | skip
      refine Walk.loop zb [] (fun k : Nat=>k <= xs.length) (fun k=>[(1,.sl nc (ints cs)),(2,.sl nx (ints xs)),(3,.pim (ldC l)),(6,.bool false),(7,.ptr 0 0),(8,.sl false (ints cs)),(9,.sl false (ints xs)),(10,.ptr 1 0),(12,.bool la),(13,.int .i64 le),(115,.sl nx (ints xs)),(116,natA xs.length),(11,.int .i64 (limE w1 (xs.take k))),(117,natA k)]) (fun _=>_) (fun k=>xs.length - k) 0 (Nat.zero_le _) rfl ⟨rfl,rfl,rfl,rfl,rfl,rfl,rfl,rfl,rfl,rfl,rfl,congrArg (fun n=>some (AV.int .i64 n)) ex,?_,rfl,trivial⟩ ?_
      ·show some (AV.int .i64 _) = some (AV.int .i64 (limE w1 (xs.take 0)))
       rw [List.take_zero,ve,hw1]
      intro k hk
      have hnx:=wD (w:=w1) (xs:=xs) (k:=k)
      have hal:=w9 (w:=w1) (xs:=xs) (k:=k)
      rw [<- hle] at hal
      generalize limE w1 (xs.take k) = q at hnx hal
      conv=>whnf
      repeat' first|((first|(with_reducible apply XBr.tt)|(with_reducible apply XBr.ff));conv=>whnf)|((with_reducible apply XBr.dec) <;> (intro h;first|(exfalso;omega)|((try simp only [List.length_map] at h);first|(exfalso;omega)|(conv=>whnf))))|((with_reducible apply XBr.beq) <;> (intro h;first|(exfalso;omega)|(conv=>whnf)))|((first|(with_reducible refine XInt.i64 (by omega) (by omega) ?_)|((with_reducible refine XIx.nat ?_ ?_ ?_);omega;(intro _;rfl)));conv=>whnf)|fail
      iterate 4
       (focus
        refine zh.go (k + 1) (by omega) (by omega) rfl ⟨rfl,rfl,rfl,rfl,rfl,rfl,rfl,rfl,rfl,rfl,rfl,rfl,?_,rfl,trivial⟩
        show some (AV.int .i64 _) = some (AV.int .i64 (limE w1 (xs.take (k + 1))))
        rw [hnx (by omega)]
        first | rw [if_pos ⟨by omega,by omega⟩] | rw [if_neg (by omega)])
      have hql:=hal (by omega)
      clear hnx hal hw1
      subst hql
      refine Walk.norm zb [] [(1,.sl nc (ints cs)),(2,.sl nx (ints xs)),(3,.pim (ldC l)),(6,.bool false),(7,.ptr 0 0),(8,.sl false (ints cs)),(9,.sl false (ints xs)),(10,.ptr 1 0),(11,.int .i64 q),(12,.bool la),(13,.int .i64 q)] ⟨rfl,rfl,rfl,rfl,rfl,rfl,rfl,rfl,rfl,rfl,rfl,trivial⟩ ?_
      conv=>whnf
      by_cases hq : q = 0
      ·have hLq:=hLo hq
       subst hq
       repeat' first|((with_reducible apply XBr.beq) <;> (intro h;first|(exfalso;omega)|(conv=>whnf)))|fail
       all_goals first|exact XOut.bool rfl|(exfalso;exact absurd rfl (by assumption))|(exfalso;cases la <;> simp at h;done) | skip
      ·have hLq:=hla hq
       subst hLq
       repeat' first|((first|(with_reducible apply XBr.tt)|(with_reducible apply XBr.ff));conv=>whnf)|((with_reducible apply XBr.beq) <;> (intro h;first|(exfalso;omega)|(conv=>whnf)))|((first|(refine za.ret hsm ?_)|(refine za.ret (eqI false nc cs (by omega)) ?_)|(refine za.ret (eqI false nx xs (by omega)) ?_)|(refine za.ret zx ?_));conv=>whnf)|((with_reducible apply XBr.mk') <;> (intro h;conv=>whnf))|fail
       all_goals first|exact XOut.bool rfl|(exfalso;exact absurd rfl (by assumption))|(exfalso;simp at h;done) | skip
   ·exfalso
    have h5 : ¬ re = 0:=by omega
    rw [decide_eq_false h5] at h;simp at h
   ·by_cases hlen : xs.length = n
    ·skip
     obtain ⟨w1,hw1⟩ : ∃ w1 : Int,w1 = 0:=⟨0,rfl⟩
     have hle : zY (ownL l) xs = limE w1 xs:=by rw [hLE,if_neg (by omega),hw1];unfold limE;rw [if_neg (show ¬ (0 : Int) ≠ 0 by omega)]
     have hLo : zY (ownL l) xs = 0 -> Comp Tryz.prog 56 [ldA (thL l),.sl nx (ints xs)] (.bool (decide (zY (ownL l) xs = 0) && lb)):=fun h=>by rw [decide_eq_true h];exact hlo (by omega)
     have hla : zY (ownL l) xs ≠ 0 -> (decide (zY (ownL l) xs = 0) && lb) = false:=fun h=>by rw [decide_eq_false h];rfl
     generalize (decide (zY (ownL l) xs = 0) && lb) = la at hL hLo hla
     generalize zY (ownL l) xs = le at hL hLo hla hle
     repeat' first|((with_reducible apply XBr.tt);conv=>whnf)|((with_reducible apply XBr.beq) <;> (intro h;first|(exfalso;omega)|(conv=>whnf)))|((with_reducible apply XBr.bne) <;> (intro h;first|(exfalso;omega)|(conv=>whnf)))|((refine za.ret hL ?_);conv=>whnf)|fail
     all_goals first|(exfalso;omega) | skip
     refine Walk.loop zb [] (fun k : Nat=>k <= xs.length) (fun k=>[(1,.sl nc (ints cs)),(2,.sl nx (ints xs)),(3,.pim (ldC l)),(6,.bool false),(7,.ptr 0 0),(8,.sl false (ints cs)),(9,.sl false (ints xs)),(10,.ptr 1 0),(12,.bool la),(13,.int .i64 le),(115,.sl nx (ints xs)),(116,natA xs.length),(11,.int .i64 (limE w1 (xs.take k))),(117,natA k)]) (fun _=>_) (fun k=>xs.length - k) 0 (Nat.zero_le _) rfl ⟨rfl,rfl,rfl,rfl,rfl,rfl,rfl,rfl,rfl,rfl,rfl,congrArg (fun n=>some (AV.int .i64 n)) ex,?_,rfl,trivial⟩ ?_
     ·show some (AV.int .i64 _) = some (AV.int .i64 (limE w1 (xs.take 0)))
      rw [List.take_zero,ve,hw1]
     intro k hk
     have hnx:=wD (w:=w1) (xs:=xs) (k:=k)
     have hal:=w9 (w:=w1) (xs:=xs) (k:=k)
     rw [<- hle] at hal
     generalize limE w1 (xs.take k) = q at hnx hal
     conv=>whnf
     repeat' first|((first|(with_reducible apply XBr.tt)|(with_reducible apply XBr.ff));conv=>whnf)|((with_reducible apply XBr.dec) <;> (intro h;first|(exfalso;omega)|((try simp only [List.length_map] at h);first|(exfalso;omega)|(conv=>whnf))))|((with_reducible apply XBr.beq) <;> (intro h;first|(exfalso;omega)|(conv=>whnf)))|((first|(with_reducible refine XInt.i64 (by omega) (by omega) ?_)|((with_reducible refine XIx.nat ?_ ?_ ?_);omega;(intro _;rfl)));conv=>whnf)|fail
     iterate 4
      (focus
       refine zh.go (k + 1) (by omega) (by omega) rfl ⟨rfl,rfl,rfl,rfl,rfl,rfl,rfl,rfl,rfl,rfl,rfl,rfl,?_,rfl,trivial⟩
       show some (AV.int .i64 _) = some (AV.int .i64 (limE w1 (xs.take (k + 1))))
       rw [hnx (by omega)]
       first | rw [if_pos ⟨by omega,by omega⟩] | rw [if_neg (by omega)])
     have hql:=hal (by omega)
     clear hnx hal hw1
     subst hql
     refine Walk.norm zb [] [(1,.sl nc (ints cs)),(2,.sl nx (ints xs)),(3,.pim (ldC l)),(6,.bool false),(7,.ptr 0 0),(8,.sl false (ints cs)),(9,.sl false (ints xs)),(10,.ptr 1 0),(11,.int .i64 q),(12,.bool la),(13,.int .i64 q)] ⟨rfl,rfl,rfl,rfl,rfl,rfl,rfl,rfl,rfl,rfl,rfl,trivial⟩ ?_
     conv=>whnf
     by_cases hq : q = 0
     ·have hLq:=hLo hq
      subst hq
      repeat' first|((first|(with_reducible apply XBr.tt)|(with_reducible apply XBr.ff));conv=>whnf)|((with_reducible apply XBr.beq) <;> (intro h;first|(exfalso;omega)|(conv=>whnf)))|((first|(refine za.ret hLq ?_)|(refine za.ret hsm ?_)|(refine za.ret (eqI false nc cs (by omega)) ?_)|(refine za.ret (eqI false nx xs (by omega)) ?_)|(refine za.ret zx ?_));conv=>whnf)|((with_reducible apply XBr.mk') <;> (intro h;conv=>whnf))|fail
      all_goals first|exact XOut.bool rfl|(exfalso;exact absurd rfl (by assumption))|(exfalso;cases la <;> simp at h;done) | skip
     ·have hLq:=hla hq
      subst hLq
      repeat' first|((first|(with_reducible apply XBr.tt)|(with_reducible apply XBr.ff));conv=>whnf)|((with_reducible apply XBr.beq) <;> (intro h;first|(exfalso;omega)|(conv=>whnf)))|((first|(refine za.ret hsm ?_)|(refine za.ret (eqI false nc cs (by omega)) ?_)|(refine za.ret (eqI false nx xs (by omega)) ?_)|(refine za.ret zx ?_));conv=>whnf)|((with_reducible apply XBr.mk') <;> (intro h;conv=>whnf))|fail
      all_goals first|exact XOut.bool rfl|(exfalso;exact absurd rfl (by assumption))|(exfalso;simp at h;done) | skip
    ·skip
     obtain ⟨w1,hw1⟩ : ∃ w1 : Int,w1 = 2:=⟨2,rfl⟩
     have hle : zY (ownL l) xs = limE w1 xs:=by rw [hLE,if_pos (by omega)];unfold limE;rw [if_pos (by omega)];omega
     have hl2 : zY (ownL l) xs = 2:=by rw [hLE,if_pos (by omega)]
     have hLo : zY (ownL l) xs = 0 -> Comp Tryz.prog 56 [ldA (thL l),.sl nx (ints xs)] (.bool (decide (zY (ownL l) xs = 0) && lb)):=fun h=>by omega
     have hla : zY (ownL l) xs ≠ 0 -> (decide (zY (ownL l) xs = 0) && lb) = false:=fun h=>by rw [decide_eq_false h];rfl
     generalize (decide (zY (ownL l) xs = 0) && lb) = la at hL hLo hla
     generalize zY (ownL l) xs = le at hL hLo hla hle hl2
     repeat' first|((with_reducible apply XBr.tt);conv=>whnf)|((with_reducible apply XBr.beq) <;> (intro h;first|(exfalso;omega)|(conv=>whnf)))|((with_reducible apply XBr.bne) <;> (intro h;first|(exfalso;omega)|(conv=>whnf)))|((refine za.ret hL ?_);conv=>whnf)|fail
     all_goals first|(exfalso;omega) | skip
     refine Walk.loop zb [] (fun k : Nat=>k <= xs.length) (fun k=>[(1,.sl nc (ints cs)),(2,.sl nx (ints xs)),(3,.pim (ldC l)),(6,.bool false),(7,.ptr 0 0),(8,.sl false (ints cs)),(9,.sl false (ints xs)),(10,.ptr 1 0),(12,.bool la),(13,.int .i64 le),(115,.sl nx (ints xs)),(116,natA xs.length),(11,.int .i64 (limE w1 (xs.take k))),(117,natA k)]) (fun _=>_) (fun k=>xs.length - k) 0 (Nat.zero_le _) rfl ⟨rfl,rfl,rfl,rfl,rfl,rfl,rfl,rfl,rfl,rfl,rfl,congrArg (fun n=>some (AV.int .i64 n)) ex,?_,rfl,trivial⟩ ?_
     ·show some (AV.int .i64 _) = some (AV.int .i64 (limE w1 (xs.take 0)))
      rw [List.take_zero,ve,hw1]
     intro k hk
     have hnx:=wD (w:=w1) (xs:=xs) (k:=k)
     have hal:=w9 (w:=w1) (xs:=xs) (k:=k)
     rw [<- hle] at hal
     generalize limE w1 (xs.take k) = q at hnx hal
     conv=>whnf
     repeat' first|((first|(with_reducible apply XBr.tt)|(with_reducible apply XBr.ff));conv=>whnf)|((with_reducible apply XBr.dec) <;> (intro h;first|(exfalso;omega)|((try simp only [List.length_map] at h);first|(exfalso;omega)|(conv=>whnf))))|((with_reducible apply XBr.beq) <;> (intro h;first|(exfalso;omega)|(conv=>whnf)))|((first|(with_reducible refine XInt.i64 (by omega) (by omega) ?_)|((with_reducible refine XIx.nat ?_ ?_ ?_);omega;(intro _;rfl)));conv=>whnf)|fail
     iterate 4
      (focus
       refine zh.go (k + 1) (by omega) (by omega) rfl ⟨rfl,rfl,rfl,rfl,rfl,rfl,rfl,rfl,rfl,rfl,rfl,rfl,?_,rfl,trivial⟩
       show some (AV.int .i64 _) = some (AV.int .i64 (limE w1 (xs.take (k + 1))))
       rw [hnx (by omega)]
       first | rw [if_pos ⟨by omega,by omega⟩] | rw [if_neg (by omega)])
     have hql:=hal (by omega)
     clear hnx hal hw1
     subst hql
     refine Walk.norm zb [] [(1,.sl nc (ints cs)),(2,.sl nx (ints xs)),(3,.pim (ldC l)),(6,.bool false),(7,.ptr 0 0),(8,.sl false (ints cs)),(9,.sl false (ints xs)),(10,.ptr 1 0),(11,.int .i64 q),(12,.bool la),(13,.int .i64 q)] ⟨rfl,rfl,rfl,rfl,rfl,rfl,rfl,rfl,rfl,rfl,rfl,trivial⟩ ?_
     conv=>whnf
     by_cases hq : q = 0
     ·have hLq:=hLo hq
      subst hq
      repeat' first|((with_reducible apply XBr.beq) <;> (intro h;first|(exfalso;omega)|(conv=>whnf)))|fail
      all_goals first|exact XOut.bool rfl|(exfalso;exact absurd rfl (by assumption))|(exfalso;cases la <;> simp at h;done) | skip
     ·have hLq:=hla hq
      subst hLq
      repeat' first|((first|(with_reducible apply XBr.tt)|(with_reducible apply XBr.ff));conv=>whnf)|((with_reducible apply XBr.beq) <;> (intro h;first|(exfalso;omega)|(conv=>whnf)))|((first|(refine za.ret hsm ?_)|(refine za.ret (eqI false nc cs (by omega)) ?_)|(refine za.ret (eqI false nx xs (by omega)) ?_)|(refine za.ret zx ?_));conv=>whnf)|((with_reducible apply XBr.mk') <;> (intro h;conv=>whnf))|fail
      all_goals first|exact XOut.bool rfl|(exfalso;exact absurd rfl (by assumption))|(exfalso;simp at h;done) | skip
  ·have hR0 : wJ (ownL l) cs = false:=by unfold wJ;rw [hRE,if_pos h0,decide_eq_false h0];rfl
   have hL0 : qS (ownL l) xs = false:=by unfold qS;rw [hLE,if_pos h0,decide_eq_false h0];rfl
   have hle0 : limE (zi l) xs = zi l:=by unfold limE;rw [if_pos h0]
   rw [hRE,if_pos h0,hR0] at hR
   rw [hLE,if_pos h0,hL0] at hL
   clear hRE hLE hR0 hL0
   generalize zi l = e at h0 hrc hR hL hle0
   obtain ⟨w1,hw1⟩ : ∃ w1 : Int,w1 = e:=⟨e,rfl⟩
   obtain ⟨le,hle'⟩ : ∃ le : Int,le = e:=⟨e,rfl⟩
   obtain ⟨la,hla'⟩ : ∃ la : Bool,la = false:=⟨false,rfl⟩
   have hle : le = limE w1 xs:=by rw [hw1,hle0,hle']
   have hLo : le = 0 -> Comp Tryz.prog 56 [ldA (thL l),.sl nx (ints xs)] (.bool la):=fun h=>by omega
   have hla : le ≠ 0 -> la = false:=fun _=>hla'
   have hL : Comp Tryz.prog 55 [ldA (ownL l),.sl false (ints xs)] (.tup [.bool la,.int .i64 le]):=by rw [hla',hle'];exact hL
   repeat' first|((with_reducible apply XBr.ff);conv=>whnf)|((with_reducible apply XBr.beq) <;> (intro h;first|(exfalso;omega)|(conv=>whnf)))|((with_reducible apply XBr.bne) <;> (intro h;first|(exfalso;omega)|(conv=>whnf)))|((first|(refine za.ret hrc ?_)|(refine za.ret hR ?_));conv=>whnf)|((with_reducible apply XBr.mk') <;> (intro h;conv=>whnf))|fail
   all_goals first|(exfalso;omega)|(exfalso;exact absurd rfl (by assumption))|(exfalso;revert h;decide) | skip
   repeat' first|((with_reducible apply XBr.ff);conv=>whnf)|((with_reducible apply XBr.beq) <;> (intro h;first|(exfalso;omega)|(conv=>whnf)))|((refine za.ret hL ?_);conv=>whnf)|fail
   all_goals first|(exfalso;omega) | skip
   refine Walk.loop zb [] (fun k : Nat=>k <= xs.length) (fun k=>[(1,.sl nc (ints cs)),(2,.sl nx (ints xs)),(3,.pim (ldC l)),(6,.bool false),(7,.ptr 0 0),(8,.sl false (ints cs)),(9,.sl false (ints xs)),(10,.ptr 1 0),(12,.bool la),(13,.int .i64 le),(115,.sl nx (ints xs)),(116,natA xs.length),(11,.int .i64 (limE w1 (xs.take k))),(117,natA k)]) (fun _=>_) (fun k=>xs.length - k) 0 (Nat.zero_le _) rfl ⟨rfl,rfl,rfl,rfl,rfl,rfl,rfl,rfl,rfl,rfl,rfl,congrArg (fun n=>some (AV.int .i64 n)) ex,?_,rfl,trivial⟩ ?_
   ·show some (AV.int .i64 _) = some (AV.int .i64 (limE w1 (xs.take 0)))
    rw [List.take_zero,ve,hw1]
   intro k hk
   have hnx:=wD (w:=w1) (xs:=xs) (k:=k)
   have hal:=w9 (w:=w1) (xs:=xs) (k:=k)
   rw [<- hle] at hal
   generalize limE w1 (xs.take k) = q at hnx hal
   conv=>whnf
   repeat' first|((first|(with_reducible apply XBr.tt)|(with_reducible apply XBr.ff));conv=>whnf)|((with_reducible apply XBr.dec) <;> (intro h;first|(exfalso;omega)|((try simp only [List.length_map] at h);first|(exfalso;omega)|(conv=>whnf))))|((with_reducible apply XBr.beq) <;> (intro h;first|(exfalso;omega)|(conv=>whnf)))|((first|(with_reducible refine XInt.i64 (by omega) (by omega) ?_)|((with_reducible refine XIx.nat ?_ ?_ ?_);omega;(intro _;rfl)));conv=>whnf)|fail
   iterate 4
    (focus
     refine zh.go (k + 1) (by omega) (by omega) rfl ⟨rfl,rfl,rfl,rfl,rfl,rfl,rfl,rfl,rfl,rfl,rfl,rfl,?_,rfl,trivial⟩
     show some (AV.int .i64 _) = some (AV.int .i64 (limE w1 (xs.take (k + 1))))
     rw [hnx (by omega)]
     first | rw [if_pos ⟨by omega,by omega⟩] | rw [if_neg (by omega)])
   have hql:=hal (by omega)
   clear hnx hal hw1
   subst hql
   refine Walk.norm zb [] [(1,.sl nc (ints cs)),(2,.sl nx (ints xs)),(3,.pim (ldC l)),(6,.bool false),(7,.ptr 0 0),(8,.sl false (ints cs)),(9,.sl false (ints xs)),(10,.ptr 1 0),(11,.int .i64 q),(12,.bool la),(13,.int .i64 q)] ⟨rfl,rfl,rfl,rfl,rfl,rfl,rfl,rfl,rfl,rfl,rfl,trivial⟩ ?_
   conv=>whnf
   by_cases hq : q = 0
   ·have hLq:=hLo hq
    subst hq
    repeat' first|((with_reducible apply XBr.beq) <;> (intro h;first|(exfalso;omega)|(conv=>whnf)))|fail
    all_goals first|exact XOut.bool rfl|(exfalso;exact absurd rfl (by assumption))|(exfalso;cases la <;> simp at h;done) | skip
   ·have hLq:=hla hq
    subst hLq
    repeat' first|((first|(with_reducible apply XBr.tt)|(with_reducible apply XBr.ff));conv=>whnf)|((with_reducible apply XBr.beq) <;> (intro h;first|(exfalso;omega)|(conv=>whnf)))|((first|(refine za.ret hsm ?_)|(refine za.ret (eqI false nc cs (by omega)) ?_)|(refine za.ret (eqI false nx xs (by omega)) ?_)|(refine za.ret zx ?_));conv=>whnf)|((with_reducible apply XBr.mk') <;> (intro h;conv=>whnf))|fail
    all_goals first|exact XOut.bool rfl|(exfalso;exact absurd rfl (by assumption))|(exfalso;simp at h;done) | skip
end GA
end
section
namespace GA
open Go Go.RowKit Go.Proofs
def FewA (l : Ld) : Prop:=zi l = 0 -> l.sacks.length <= 6 -> FewOk l
def fewB (l : Ld) : Bool:=
 if zi l = 0 /\ l.sacks.length <= 6 then
  if l.sacks.length = 0 then decide (ye (zf (ownL l)) = 0) && decide ((yq (zf (ownL l)) 0 0).out = [])
  else match fewO (zn (zf l)) l.sacks.length with
   | some (o,m)=>decide (m <= 9) && (decide (ye (zf (ownL l)) = m) && decide ((yq (zf (ownL l)) m m).out = o))
   | none=>decide (9 < ye (zf (ownL l)))
 else true
theorem natsI (o : List Nat) : nats o = ints (o.map Int.ofNat):=by unfold nats ints;rw [List.map_map];rfl
theorem zbO (d : Dk) (m n : Nat) : (yq d m n).out.length = d.l.sacks.length:=(qv d m n).out
theorem vM {l : Ld} (h : fewB l = true) : FewA l:=fun h0 h6=>by
 unfold fewB at h
 rw [if_pos ⟨h0,h6⟩] at h
 have hfr : yQ (ownL l) = kT (zf (ownL l)):=if_pos h0
 have hll:=fun m n=>zbO (zf (ownL l)) m n
 have hdl : (zf (ownL l)).l.sacks.length = l.sacks.length:=rfl
 unfold FewOk
 rw [hfr]
 unfold kT fewZ
 by_cases hn : l.sacks.length = 0
 ·rw [if_pos hn] at h
  simp only [Bool.and_eq_true,decide_eq_true_eq] at h
  refine .inl ⟨[],0,true,by simp,by omega,?_,by rw [if_pos hn];rfl⟩
  rw [h.1,if_neg (by omega),h.2];rfl
 ·rw [if_neg hn] at h ⊢
  cases hf : fewO (zn (zf l)) l.sacks.length with
  | some q =>
    obtain ⟨o,m⟩:=q
    rw [hf] at h
    simp only [Bool.and_eq_true,decide_eq_true_eq] at h
    obtain ⟨h1,h2,h3⟩:=h
    have hol:=hll m m
    rw [h3] at hol
    refine .inl ⟨o.map Int.ofNat,(m : Int),false,by rw [List.length_map];omega,by omega,?_,?_⟩
    ·rw [h2,if_neg (by omega),h3,natsI];rfl
    ·show optF (some (o,m)) = _
     rw [show optF (some (o,m)) = .tup [.sl false (nats o),natA m] from rfl,natsI];rfl
  | none =>
    rw [hf] at h
    simp only [decide_eq_true_eq] at h
    exact .inr ⟨by rw [if_pos h],rfl⟩
structure zbF : Prop where
 asked : ∀ (l : Ld),(l.nla = true -> l.apart = []) -> FewA l -> ∀ (n1 : Bool) (c : List Int) (n2 : Bool) (lo : List Int) (p : Pr) (k pay : Int) (n3 : Bool) (x : List Int) (d : Int × Int),Comp Tryz.prog 5 [ldA l,.sl n1 (ints c),.sl n2 (ints lo),pcA p,.int .i64 k,.int .i64 pay,.sl n3 (ints x),rtA d] (.bool true)
 loads : ∀ (l : Ld),(l.nla = true -> l.apart = []) -> Comp Tryz.prog 12 [ldA l] (.bool true)
 carts : ∀ (l : Ld),(l.nla = true -> l.apart = []) -> ∀ (n1 : Bool) (c : List Int) (n2 : Bool) (lo : List Int),Comp Tryz.prog 13 [ldA l,.sl n1 (ints c),.sl n2 (ints lo)] (.bool true)
 fewest : ∀ (l : Ld),(l.nla = true -> l.apart = []) -> FewA l -> ∀ p : Pr,Comp Tryz.prog 14 [ldA l,pcA p] (.bool true)
 pay : ∀ (l : Ld),(l.nla = true -> l.apart = []) -> ∀ (pay : Int) (n3 : Bool) (x : List Int) (d : Int × Int),Comp Tryz.prog 15 [ldA l,.int .i64 pay,.sl n3 (ints x),rtA d] (.bool true)
 gauge : ∀ (nl : Bool) (xs : List Int) (g most : Int),Comp Tryz.prog 6 [.sl nl (ints xs),.int .i64 g,.int .i64 most] (.bool true)
 awake : Comp Tryz.prog 17 [] (.bool true)
theorem asked_c (l : Ld) (hw : l.nla = true -> l.apart = []) (hF : FewA l) (n1 : Bool) (c : List Int) (n2 : Bool) (lo : List Int) (p : Pr) (k pay : Int) (n3 : Bool) (x : List Int) (d : Int × Int) : Comp Tryz.prog 5 [ldA l,.sl n1 (ints c),.sl n2 (ints lo),pcA p,.int .i64 k,.int .i64 pay,.sl n3 (ints x),rtA d] (.bool true):=by
 have h1:=fp l hw
 have h2:=fu l hw n1 c n2 lo
 have h3:=vV l p hw hF
 have h4:=zeO l hw k
 have h5:=zb9 l hw pay n3 x d
 refine Comp.body (T:=tab) (res:=[.tmp 16]) zb [] Tryz.func5 rfl (by kernel_rfl) Tryz.ntmps5 rfl (by simp only [List.length_cons,List.length_nil];decide) (by simp only [lowL,AV.low,ldL,pcL,lowI,rtA];rfl) ?_;conv=>whnf
 skip
 refine Walk.norm zb [] [(1,_),(2,_),(4,_),(5,_),(6,_),(8,_),(11,_),(15,_)] ⟨rfl,rfl,rfl,rfl,rfl,rfl,rfl,rfl,trivial⟩ ?_
 conv=>whnf
 repeat' first|((first|(first|refine za.ret h1 ?_|refine za.ret h2 ?_|refine za.ret h3 ?_|refine za.ret h4 ?_|refine za.ret h5 ?_)|(with_reducible apply XBr.tt));conv=>whnf)|fail
 exact XOut.bool rfl
theorem lawsS : zbF where
 asked:=asked_c
 loads:=fp
 carts:=fu
 fewest l hw hF p:=vV l p hw hF
 pay:=zb9
 gauge:=zej
 awake:=zx
theorem few_end : fewB ⟨1,0,true,[],true,[],true,[]⟩ = true:=by decide +kernel
theorem ssEnd (L : zbF) : XRun Tryz.prog tab 433 none [68,77,78,79,82,84,87,89] (tailC 5 (theC Tryz.f3.body)) (XFn Tryz.prog tab [.tmp 0] (.bool true)) [] (stX []) []:=by
 /-
 refine Comp.body (T:=tab) (res:=[.tmp 0]) zb [] Tryz.func3 rfl (by kernel_rfl) Tryz.ntmps3 rfl (by simp only [List.length_cons,List.length_nil];decide) (by rfl) ?_;conv=>whnf
 -/
 have a1:=L.gauge true [] 1 0
 have a2:=L.loads ⟨0,0,true,[],true,[],true,[]⟩ (fun _=>rfl)
 have a3:=L.asked ⟨1,0,true,[],true,[],true,[]⟩ (fun _=>rfl) (vM few_end) true [] true [] ⟨1,true,[]⟩ 0 0 false [0,0,0,0,0,0] (1,1)
 have a4:=L.awake
 conv=>whnf
 repeat' first|((first|(first|refine za.ret a1 ?_|refine za.ret a2 ?_|refine za.lend a3 (.cons (.low rfl) (.cons (.low rfl) (.cons (.low rfl) (.cons (.low rfl) (.cons (.low rfl) (.cons (.low rfl) (.cons (Froz.grow (i:=0) rfl rfl rfl) (.cons (.low rfl) .nil)))))))) rfl ?_|refine za.ret a4 ?_)|(with_reducible apply XBr.tt));conv=>whnf)|(refine zj.a ?_;conv=>whnf)|fail
 all_goals exact XOut.bool rfl
end GA
end
section
namespace GA
open Go Go.RowKit Go.Proofs
def skN (n i : Nat) : Sk:=⟨1 + ((n : Int) * ((i : Int) + 3)).tmod 9,((n : Int).tdiv ((i : Int) + 1)).tmod 4⟩
def apN (n m i : Nat) : Int × Int:=(((n : Int) + (i : Int)).tmod (m : Int),((n : Int) + (i : Int) + 1 + (i : Int).tmod ((m : Int) - 1)).tmod (m : Int))
def wiN (n m i : Nat) : Int × Int:=(((n : Int) + 2 * (i : Int)).tmod (m : Int),((n : Int) + 2 * (i : Int) + 1).tmod (m : Int))
def rowN {α : Type} (f : Nat -> α) (j : Nat) : List α:=(List.range j).map f
theorem kF {α : Type} (f : Nat -> α) (j : Nat) : rowN f (j + 1) = rowN f j ++ [f j]:=by unfold rowN;rw [List.range_succ,List.map_append];rfl
theorem zH {α : Type} (f : Nat -> α) (j : Nat) : (rowN f j).length = j:=by unfold rowN;rw [List.length_map,List.length_range]
def apK (n : Nat) : Nat:=if 1 < n % 6 then ((n : Int).tdiv 3).tmod 3 |>.toNat else 0
def wiK (n : Nat) : Nat:=if 1 < n % 6 then ((n : Int).tdiv 2).tmod 3 |>.toNat else 0
def smG (n m a w : Nat) : Ld:=⟨8 + (n : Int).tmod 9,(n : Int).tmod 4 * 15,(rowN (skN n) m).isEmpty,rowN (skN n) m,(rowN (apN n m) a).isEmpty,rowN (apN n m) a,(rowN (wiN n m) w).isEmpty,rowN (wiN n m) w⟩
def smL (n : Nat) : Ld:=smG n (n % 6) (apK n) (wiK n)
theorem zcg : ∀ n,n < 36 -> fewB (smL n) = true:=by decide +kernel
def limL (i : Nat) (v : Int) : Ld:=match i with
 | 0=>⟨v,10,false,[⟨30,0⟩,⟨20,1⟩,⟨25,0⟩,⟨20,2⟩,⟨10,1⟩],false,[(0,2)],false,[(1,3)]⟩
 | 1=>⟨50,v,false,[⟨30,0⟩,⟨20,1⟩,⟨25,0⟩,⟨20,2⟩,⟨10,1⟩],false,[(0,2)],false,[(1,3)]⟩
 | 2=>⟨50,10,false,[⟨30,0⟩,⟨20,1⟩,⟨v,0⟩,⟨20,2⟩,⟨10,1⟩],false,[(0,2)],false,[(1,3)]⟩
 | 3=>⟨50,10,false,[⟨30,0⟩,⟨20,1⟩,⟨25,0⟩,⟨20,2⟩,⟨10,v⟩],false,[(0,2)],false,[(1,3)]⟩
 | 4=>⟨50,10,false,[⟨30,0⟩,⟨20,1⟩,⟨25,0⟩,⟨20,2⟩,⟨10,1⟩],false,[(0,v)],false,[(1,3)]⟩
 | 5=>⟨50,10,false,[⟨30,0⟩,⟨20,1⟩,⟨25,0⟩,⟨20,2⟩,⟨10,1⟩],false,[(0,2)],false,[(v,3)]⟩
 | _=>⟨50,10,false,[⟨30,0⟩,⟨20,1⟩,⟨25,0⟩,⟨20,2⟩,⟨10,1⟩],false,[(0,2)],false,[(1,3)]⟩
def limS : List (List Int):=[[0,1,26,27,100,101],[-1,0,90,91],[0,1,55,56,100,101],[-1,0,5,6],[-1,0,4,5],[-1,1,4,5],[-1,0,4,5],[-1,0,1,8,9],[0,1,49,50,100,101],[-1,0,23,24,100,101],[-1,0,1,9,10],[-1,0,10,500,501],[-1,0,6,500,501],[0,1,100000,100001],[0,1,100000,100001],[0,1,40,41],[-1,0,2,4,5],[0,1,40,41]]
theorem limS_len : ∀ i,i < 18 -> (limS.getD i default).length <= 8:=by decide
theorem few_lim0 : ∀ i,i < 6 -> ∀ v ∈ 9223372036854775807 :: -9223372036854775808 :: limS.getD i default,fewB (limL i v) = true:=by decide +kernel
theorem few_lim6 : fewB (limL 6 0) = true:=by decide +kernel
theorem few_lim (i : Nat) (v : Int) (hv : v ∈ 9223372036854775807 :: -9223372036854775808 :: limS.getD i default) : fewB (limL i v) = true:=by
 rcases Nat.lt_or_ge i 6 with h | h
 ·exact few_lim0 i h v hv
 ·have : limL i v = limL 6 0:=by
   match i,h with
   | n + 6,_=>rfl
  rw [this];exact few_lim6
def qU (n j : Nat) : Ld:=⟨100,0,(rowN (fun _=>(⟨10 + (n : Int),(n : Int).tmod 6⟩ : Sk)) j).isEmpty,rowN (fun _=>⟨10 + (n : Int),(n : Int).tmod 6⟩) j,true,[],true,[]⟩
def qZ (j : Nat) : Ld:=⟨50,10,false,[⟨30,0⟩,⟨20,1⟩,⟨25,0⟩,⟨20,2⟩,⟨10,1⟩],(rowN (fun _=>((0 : Int),(1 : Int))) j).isEmpty,rowN (fun _=>((0 : Int),(1 : Int))) j,(rowN (fun _=>((2 : Int),(3 : Int))) j).isEmpty,rowN (fun _=>((2 : Int),(3 : Int))) j⟩
theorem few_many : ∀ n,n < 12 -> fewB (qU n n) = true /\ fewB (qZ n) = true /\ (zi (qU n n) = 0 ↔ n < 10) /\ (zi (qZ n) = 0 ↔ n < 9):=by decide +kernel
end GA
end
section
namespace GA
open Go Go.RowKit Go.Proofs
theorem tmI {x k : Int} (hx : 0 <= x) (hk : 0 < k) : 0 <= x.tmod k /\ x.tmod k < k:=by
 rw [Int.tmod_eq_emod_of_nonneg hx]
 exact ⟨Int.emod_nonneg _ (by omega),Int.emod_lt_of_pos _ hk⟩
theorem tdI {x k : Int} (hx : 0 <= x) (hk : 0 < k) : 0 <= x.tdiv k /\ x.tdiv k <= x:=by
 rw [Int.tdiv_eq_ediv_of_nonneg hx]
 exact ⟨Int.ediv_nonneg hx (by omega),Int.ediv_le_self _ hx⟩
theorem yu {α : Type} (xs : List α) (x : α) : (xs ++ [x]).isEmpty = (xs.isEmpty && false):=by cases xs <;> rfl
set_option maxHeartbeats 4000000 in
theorem ssMany (L : zbF) : XRun Tryz.prog tab 433 none [68,77,78,79,82,84,87,89] (tailC 4 (theC Tryz.f3.body)) (XFn Tryz.prog tab [.tmp 0] (.bool true)) [] (stX []) []:=by
 /-
 refine Comp.body (T:=tab) (res:=[.tmp 0]) zb [] Tryz.func3 rfl (by kernel_rfl) Tryz.ntmps3 rfl (by simp only [List.length_cons,List.length_nil];decide) (by rfl) ?_;conv=>whnf
 -/
 have t1:=zas
 conv=>whnf
 refine Walk.thenKeep ?_
 refine Walk.loopGK zb [] [] trivial (fun n : Nat=>n <= 12) (fun n=>[(312,natA n)]) (fun _=>[]) (fun n=>12 - n) 0 (Nat.zero_le _) rfl ⟨rfl,trivial⟩ ?_ (fun _ _=>Nat.le_refl _) ?_
 ·intro n _
  refine ⟨fun z hz=>(by cases hz),fun z hz=>?_⟩
  simp only [List.cons_append,List.nil_append,List.mem_cons,List.not_mem_nil,or_false] at hz
  subst hz;rfl
 intro n hn
 conv=>whnf
 by_cases hn12 : n < 12
 ·skip
  repeat' first|((with_reducible first|refine XBr.y fun h=>?_|refine XBr.n fun h=>?_|refine XBr.dec (fun h=>?_) fun h=>?_) <;> conv=>whnf)|((refine za.ret t1 ?_);conv=>whnf)|fail
  refine Walk.nilcell 0 2 36 rfl rfl ?_
  refine Walk.nilcell 1 3 31 rfl rfl ?_
  refine Walk.nilcell 1 4 31 rfl rfl ?_
  refine Walk.thenKeep ?_
  refine Walk.loopK zb [] [(36,_),(37,_),(38,_),(312,_),(317,_)] ⟨rfl,rfl,rfl,rfl,rfl,trivial⟩ (fun j : Nat=>j <= n) (fun j=>[(318,natA j)]) (fun j=>[.cells [.int .i64 100,.int .i64 0,.gr 2 j,.sl true [],.sl true []],.cells [.int .i64 50,.int .i64 10,.sl false (five.sacks.map skA),.gr 3 j,.gr 4 j],.grow 36 (rowN (fun _=>(⟨10 + (n : Int),(n : Int).tmod 6⟩ : Sk)) j).isEmpty ((rowN (fun _=>(⟨10 + (n : Int),(n : Int).tmod 6⟩ : Sk)) j).map skA),.grow 31 (rowN (fun _=>((0 : Int),(1 : Int))) j).isEmpty ((rowN (fun _=>((0 : Int),(1 : Int))) j).map prA),.grow 31 (rowN (fun _=>((2 : Int),(3 : Int))) j).isEmpty ((rowN (fun _=>((2 : Int),(3 : Int))) j).map prA)]) (fun j=>n - j) 0 (Nat.zero_le _) rfl ⟨rfl,trivial⟩ ?_
  intro j hj
  by_cases hjn : j < n
  ·have hx1:=kF (fun _=>(⟨10 + (n : Int),(n : Int).tmod 6⟩ : Sk)) j
   have hx2:=kF (fun _=>((0 : Int),(1 : Int))) j
   have hx3:=kF (fun _=>((2 : Int),(3 : Int))) j
   have hr1 : ((rowN (fun _=>(⟨10 + (n : Int),(n : Int).tmod 6⟩ : Sk)) j).map skA).length = j:=by rw [List.length_map,zH]
   have hr2 : ((rowN (fun _=>((0 : Int),(1 : Int))) j).map prA).length = j:=by rw [List.length_map,zH]
   have hr3 : ((rowN (fun _=>((2 : Int),(3 : Int))) j).map prA).length = j:=by rw [List.length_map,zH]
   obtain ⟨E1,hE1⟩ : ∃ E,E = rowN (fun _=>(⟨10 + (n : Int),(n : Int).tmod 6⟩ : Sk)) j:=⟨_,rfl⟩
   obtain ⟨E2,hE2⟩ : ∃ E,E = rowN (fun _=>((0 : Int),(1 : Int))) j:=⟨_,rfl⟩
   obtain ⟨E3,hE3⟩ : ∃ E,E = rowN (fun _=>((2 : Int),(3 : Int))) j:=⟨_,rfl⟩
   rw [<- hE1] at hx1 hr1 ⊢
   rw [<- hE2] at hx2 hr2 ⊢
   rw [<- hE3] at hx3 hr3 ⊢
   have hl1 : E1.length = j:=by rw [List.length_map] at hr1;exact hr1
   have hl2 : E2.length = j:=by rw [List.length_map] at hr2;exact hr2
   have hl3 : E3.length = j:=by rw [List.length_map] at hr3;exact hr3
   clear hE1 hE2 hE3
   conv=>whnf
   repeat' first|((with_reducible first|refine XBr.y fun h=>?_|refine XBr.n fun h=>?_|refine XBr.dec (fun h=>?_) fun h=>?_|refine XInt.a ?_) <;> conv=>whnf)|(refine zj.a ?_;conv=>whnf)|fail
   apply Walk.drawX zb zk [] [4,9,11,13] (hsC [_,_,_,_,_]) [_,_,_,_,_,_,_,_,_,_,_,_,_,_] (by kernel_rfl) rfl
   ·skip
    repeat' first|((with_reducible first|apply Chk.go|apply ChkA.go);conv=>whnf)|(refine zj.a ?_;conv=>whnf)|(with_reducible first|apply XAnd.mk|exact trivial)|(exact zg.mk rfl rfl)|fail
   ·skip
    repeat' first|((with_reducible first|apply Chk.go|apply ChkF.go|apply ChkB.go);conv=>whnf)|(refine zj.a ?_;conv=>whnf)|(with_reducible first|apply XAnd.mk|exact trivial)|(exact zg.mk rfl rfl)|fail
   conv=>whnf
   repeat' ((with_reducible refine XInt.a ?_);conv=>whnf)
   refine zh.go (j + 1) (by omega) (by omega) ?_ ⟨rfl,rfl,rfl,rfl,rfl,rfl,trivial⟩
   rw [hx1,hx2,hx3,yu,yu,yu,List.map_append,List.map_append,List.map_append];rfl
  obtain rfl : j = n:=by omega
  conv=>whnf
  repeat' ((with_reducible first|refine XBr.y fun h=>?_|refine XBr.n fun h=>?_|refine XBr.dec (fun h=>?_) fun h=>?_) <;> conv=>whnf)
  refine w8.go [] _ [(36,natA j),(37,.pim (ldC (qU j j))),(38,.pim (ldC (qZ j))),(312,natA j)] rfl (fun x hx=>by cases hx) ⟨⟨_,rfl,.same rfl⟩,⟨_,rfl,.all (Froz.ptr rfl (by intro v hv;simp only [ldC,List.mem_cons,List.not_mem_nil,or_false] at hv;rcases hv with rfl | rfl | rfl | rfl | rfl <;> rfl) (.cons (.low rfl) (.cons (.low rfl) (.cons (Froz.grow rfl ((List.length_map _).trans (zH _ _)) (yU _)) (.cons (.low rfl) (.cons (.low rfl) .nil))))))⟩,⟨_,rfl,.all (Froz.ptr rfl (by intro v hv;simp only [ldC,List.mem_cons,List.not_mem_nil,or_false] at hv;rcases hv with rfl | rfl | rfl | rfl | rfl <;> rfl) (.cons (.low rfl) (.cons (.low rfl) (.cons (.low rfl) (.cons (Froz.grow rfl ((List.length_map _).trans (zH _ _)) (kg _)) (.cons (Froz.grow rfl ((List.length_map _).trans (zH _ _)) (kg _)) .nil))))))⟩,⟨_,rfl,.same rfl⟩,trivial⟩ ?_
  refine kY ?_
  conv=>whnf
  repeat' first|((first|(with_reducible refine XInt.a ?_)|(first|refine zj.a ?_|refine zj.mk List.length_replicate ?_));conv=>whnf)|fail
  have hjj : ((95 + (j : Int)).toNat : Int) = 95 + j:=by omega
  generalize (95 + (j : Int)).toNat = N at *
  refine Walk.loopK zb [] [(36,_),(37,_),(38,_),(39,_),(312,_),(347,_)] ⟨rfl,rfl,rfl,rfl,rfl,rfl,trivial⟩ (fun g : Nat × List Int=>g.1 <= N /\ g.2.length = N) (fun g=>[(348,natA g.1)]) (fun g=>[.dead,.dead,.dead,.dead,.dead,.grow 3 false (ints g.2)]) (fun g=>N - g.1) (0,List.replicate N 0) ⟨Nat.zero_le _,List.length_replicate⟩ (by unfold ints;rw [List.map_replicate]) ⟨rfl,trivial⟩ ?_
  rintro ⟨k,zs⟩ ⟨hk,hz⟩
  dsimp only at hk hz ⊢
  have hzi : (ints zs).length = N:=by rw [List.length_map];exact hz
  have hm:=tmI (x:=k) (k:=40) (by omega) (by omega)
  conv=>whnf
  by_cases hkn : k < N
  ·skip
   repeat' first|((with_reducible first|refine XBr.y fun h=>?_|refine XBr.n fun h=>?_|refine XBr.dec (fun h=>?_) fun h=>?_|refine XInt.a ?_) <;> conv=>whnf)|((first|refine zj.a ?_|refine zj.mk ⟨hzi,rfl,by omega,by omega⟩ ?_|refine XPut.map (f:=fun z=>AV.int .i64 z) (xs:=zs) _ rfl hz.symm (by omega) ?_);conv=>whnf)|fail
   refine zh.go (k + 1,zs.set k (1 + (k : Int).tmod 40)) ⟨by dsimp only;omega,by dsimp only;rw [List.length_set];exact hz⟩ (by dsimp only;omega) rfl ⟨rfl,rfl,rfl,rfl,rfl,rfl,rfl,trivial⟩
  repeat' first|((with_reducible first|refine XBr.y fun h=>?_|refine XBr.n fun h=>?_|refine XBr.dec (fun h=>?_) fun h=>?_) <;> conv=>whnf)|(refine zj.a ?_;conv=>whnf)|fail
  have hf:=few_many j hn12
  have hw2 : (qZ j).nla = true -> (qZ j).apart = []:=fun h=>List.isEmpty_iff.1 h
  have hR : ints (List.replicate (j : Int).toNat 0) = List.replicate (j : Int).toNat (.int .i64 0):=by unfold ints;rw [List.map_replicate]
  have m1:=L.loads (qU j j) (fun _=>rfl)
  have m2:=L.carts (qU j j) (fun _=>rfl) true [] false (List.replicate (j : Int).toNat 0)
  have m3:=L.fewest (qU j j) (fun _=>rfl) (vM hf.1) ⟨100,false,List.replicate (j : Int).toNat 0⟩
  have m4:=L.pay (qU j j) (fun _=>rfl) (7 * (j : Int)) false (List.replicate (j : Int).toNat 0) (1,1)
  have m5:=L.loads (qZ j) hw2
  have m6:=L.fewest (qZ j) hw2 (vM hf.2.1) ⟨0,true,[]⟩
  have m7:=L.gauge false zs 40 j
  rw [hR] at m2 m4
  rw [pcA,pcC] at m3
  dsimp only at m3
  rw [hR] at m3
  have lowRep : ∀ n k : Nat,lowL n (List.replicate k (AV.int .i64 0)) = true:=fun n k=>zt.2 fun x hx=>by rw [List.eq_of_mem_replicate hx];rfl
  refine Walk.place ?_
  apply Walk.drawX zb zk [] [21] (fun fl=>match fl with
   | [x]=>[.dead,.dead,.dead,.dead,.dead,.grow 3 false (ints zs),.grow 3 false (List.replicate (j : Int).toNat (.int .i64 0)),(bif x then .grow 3 false (List.replicate (j : Int).toNat (.int .i64 0)) else .free)]
   | _=>[]) [_,_,_,_,_,_,_,_,_,_,_,_,_,_,_,_,_,_,_,_,_,.gr 7 (j : Int).toNat,_,_,_,_,_,_,_,_,_,_,_,_,_,_,_,_,_,_,_,_,_] (zaO (by kernel_rfl)) rfl
  ·skip
   repeat' first|((with_reducible first|apply XBr.tt|refine XInt.a ?_|apply Chk.go|apply ChkA.go);conv=>whnf)|(refine zj.a ?_;conv=>whnf)|(with_reducible first|apply XBr.not|apply XAnd.mk|exact trivial)|(exact zg.mk rfl rfl)|((first|refine za.ret m1 ?_|refine za.ret m5 ?_|refine za.ret m6 ?_);conv=>whnf)|((refine yy.at 7 rfl ?_);(conv=>whnf);exact zg.mk rfl rfl)|((first|refine za.lend m2 (.cons (.low (ldL _)) (.cons (.low rfl) (.cons (Froz.grow (i:=6) rfl List.length_replicate (lowRep _ _)) .nil))) rfl ?_|(refine za.lend m3 (.cons (.low (ldL _)) (.cons (Froz.agg (by intro v hv;simp only [List.mem_cons,List.not_mem_nil,or_false] at hv;rcases hv with rfl | rfl <;> rfl) (.cons (.low rfl) (.cons (Froz.grow (i:=6) rfl List.length_replicate (lowRep _ _)) .nil))) .nil)) rfl ?_)|refine za.lend m4 (.cons (.low (ldL _)) (.cons (.low rfl) (.cons (Froz.grow (i:=7) rfl List.length_replicate (lowRep _ _)) (.cons (.low rfl) .nil)))) rfl ?_|refine za.lend m7 (.cons (Froz.grow (i:=5) rfl hzi (lowI _)) (.cons (.low rfl) (.cons (.low rfl) .nil))) rfl ?_);conv=>whnf)|fail
  ·skip
   repeat' first|((with_reducible first|apply XBr.tt|refine XInt.a ?_|apply Chk.go|apply ChkF.go|apply ChkB.go);conv=>whnf)|(with_reducible first|apply XBr.not|apply XAnd.mk|exact trivial)|(exact zg.mk rfl rfl)|((first|refine za.ret m1 ?_|refine za.ret m5 ?_|refine za.ret m6 ?_|refine za.lend m2 (.cons (.low (ldL _)) (.cons (.low rfl) (.cons (Froz.grow (i:=6) rfl List.length_replicate (lowRep _ _)) .nil))) rfl ?_|(refine za.lend m3 (.cons (.low (ldL _)) (.cons (Froz.agg (by intro v hv;simp only [List.mem_cons,List.not_mem_nil,or_false] at hv;rcases hv with rfl | rfl <;> rfl) (.cons (.low rfl) (.cons (Froz.grow (i:=6) rfl List.length_replicate (lowRep _ _)) .nil))) .nil)) rfl ?_)|refine za.lend m7 (.cons (Froz.grow (i:=5) rfl hzi (lowI _)) (.cons (.low rfl) (.cons (.low rfl) .nil))) rfl ?_);conv=>whnf)|fail
  conv=>whnf
  have c1:=kS (qU j j) (fun _=>rfl) (show (rowN _ _).length <= 100000 by rw [zH];omega) (Nat.zero_le _) (Nat.zero_le _)
  have c2:=kS (qZ j) hw2 (show 5 <= 100000 by decide) (show (rowN _ _).length <= 1000 by rw [zH];omega) (show (rowN _ _).length <= 1000 by rw [zH];omega)
  have hE1:=hf.2.2.1
  have hE2:=hf.2.2.2
  generalize zi (qU j j) = E1 at c1 hE1
  generalize zi (qZ j) = E2 at c2 hE2
  clear m1 m2 m3 m4 m5 m6 m7 hf
  have hcs : j < 9 \/ (9 <= j /\ j < 10) \/ 10 <= j:=by omega
  rcases hcs with hc | hc | hc
  ·have b1 : (E1 == 0) = true:=beq_iff_eq.2 (hE1.2 (by omega))
   have b2 : (E2 == 0) = true:=beq_iff_eq.2 (hE2.2 (by omega))
   repeat' first|((with_reducible first|apply XBr.tt|apply XBr.ff|refine XInt.a ?_);conv=>whnf) | with_reducible apply XBr.not|((first|refine za.ret c1 ?_|refine za.ret c2 ?_);conv=>whnf)|(rw [b1];conv=>whnf)|(rw [b2];conv=>whnf)|((with_reducible refine XBr.mk' (fun h=>?_) fun h=>?_) <;> conv=>whnf)|fail
   all_goals first|exact zw.go (j + 1) _ (by omega) (by omega) rfl ⟨rfl,trivial⟩|(exfalso;simp at h;omega)
  ·have b1 : (E1 == 0) = true:=beq_iff_eq.2 (hE1.2 (by omega))
   have b2 : (E2 == 0) = false:=beq_eq_false_iff_ne.2 fun h=>by have:=hE2.1 h;omega
   repeat' first|((with_reducible first|apply XBr.tt|apply XBr.ff|refine XInt.a ?_);conv=>whnf) | with_reducible apply XBr.not|((first|refine za.ret c1 ?_|refine za.ret c2 ?_);conv=>whnf)|(rw [b1];conv=>whnf)|(rw [b2];conv=>whnf)|((with_reducible refine XBr.mk' (fun h=>?_) fun h=>?_) <;> conv=>whnf)|fail
   all_goals first|exact zw.go (j + 1) _ (by omega) (by omega) rfl ⟨rfl,trivial⟩|(exfalso;simp at h;omega)
  ·have b1 : (E1 == 0) = false:=beq_eq_false_iff_ne.2 fun h=>by have:=hE1.1 h;omega
   have b2 : (E2 == 0) = false:=beq_eq_false_iff_ne.2 fun h=>by have:=hE2.1 h;omega
   repeat' first|((with_reducible first|apply XBr.tt|apply XBr.ff|refine XInt.a ?_);conv=>whnf) | with_reducible apply XBr.not|((first|refine za.ret c1 ?_|refine za.ret c2 ?_);conv=>whnf)|(rw [b1];conv=>whnf)|(rw [b2];conv=>whnf)|((with_reducible refine XBr.mk' (fun h=>?_) fun h=>?_) <;> conv=>whnf)|fail
   all_goals first|exact zw.go (j + 1) _ (by omega) (by omega) rfl ⟨rfl,trivial⟩|(exfalso;simp at h;omega)
 ·obtain rfl : n = 12:=by omega
  repeat' ((with_reducible first|refine XBr.y fun h=>?_|refine XBr.n fun h=>?_|refine XBr.dec (fun h=>?_) fun h=>?_) <;> conv=>whnf)
  refine w8.go [] _ [] rfl (fun x hx=>by cases hx) trivial ?_
  refine kY ?_
  exact ssEnd L
end GA
end
