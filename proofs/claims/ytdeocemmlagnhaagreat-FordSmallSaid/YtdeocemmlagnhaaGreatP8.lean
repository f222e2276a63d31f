/- Part 8 of a proof: F34, F37, F38, F39, F40, F42, F45, F46, F47, F48, F49. -/
import Derived.Test.YtdeocemmlagnhaaGreatP7
set_option linter.unusedVariables false
set_option linter.unusedSimpArgs false
set_option maxRecDepth 8000
section
namespace GA
open Go Go.RowKit Go.Proofs
theorem dup_stp (nl : Bool) (xs : List (Int × Int)) (hx : xs.length <= 100000) : Comp Tryz.prog 73 [.sl nl (xs.map sgA)] (.sl false (xs.map sgA)):=by
 refine Comp.body (T:=tab) (res:=[.tmp 2]) za [] Tryz.func73 rfl (by kernel_rfl) Tryz.ntmps73 rfl (by simp only [List.length_cons,List.length_nil];decide) (by simp only [lowL,AV.low,zN];rfl) ?_;conv=>whnf
 refine zh.mk ⟨by omega,by simp,by unfold Room;simp;omega⟩ ?_
 conv=>whnf
 refine zh.mk (wideSg xs) ?_
 conv=>whnf
 refine zh.mk ⟨rfl,rfl,by unfold Room;simp;omega⟩ ?_
 conv=>whnf
 exact ⟨Froz.grow rfl (by simp) (zN xs)⟩
theorem SnEq.fixS {s u : Sn} (e : SnEq s u) : ∀ (l : List (Int × Int)) (p m a w : Nat),GA.fixS s p m a w l = GA.fixS u p m a w l
 | [],_,_,_,_=>rfl
 | t :: l,p,m,a,w=>by
   rw [GA.fixS,GA.fixS,e.waysL,e.last,e.drN,e.bed,SnEq.fixS e l]
theorem SnEq.fixE {s u : Sn} (e : SnEq s u) (m : Int) (l : List (Int × Int)) : GA.fixE s m l = GA.fixE u m l:=by unfold GA.fixE;rw [e.err,e.last,e.home,e.drN,e.fixS]
theorem SnEq.fixR {s u : Sn} (e : SnEq s u) (m : Int) (l : List (Int × Int)) : GA.fixR s m l = GA.fixR u m l:=by unfold GA.fixR;rw [e.home,e.drN,e.fixS]
theorem SnEq.drvS {s u : Sn} (e : SnEq s u) (b : Nat) : ∀ (l : List (Int × Int)) (x : Sta),GA.drvS s b x l = GA.drvS u b x l
 | [],_=>rfl
 | t :: l,x=>by
   rw [GA.drvS,GA.drvS,e.after]
   cases (zm u x t).find? fun y=>y.l.testBit b with
   | none=>rfl
   | some y=>dsimp only;rw [SnEq.drvS e b l]
theorem zdh (s : Sn) (hb : SnB s) (mi : Int) (T : List (Int × Int)) (hT : T.length <= 100) : ∃ a w e : Int,(∀ nl,Comp Tryz.prog 84 [snA (ownS s),.int .i64 mi,.sl nl (T.map sgA)] (.tup [.int .i64 a,.int .i64 w,.int .i64 e])) /\ ∀ nl,Comp Tryz.prog 85 [rsA s,.int .i64 mi,.sl nl (T.map sgA)] (.tup [.int .i64 a,.int .i64 w,.int .i64 e]):=by
 have e:=kL s
 by_cases h : snE s ≠ 0 \/ inZ mi 0 s.last = false
 ·refine ⟨0,0,fixE s mi T,fun nl=>?_,fun nl=>rFixed_no s hb mi nl T h⟩
  rw [e.fixE]
  exact fFixed_no (ownS s) (ku hb) mi nl T (by rw [<- e.err];exact h)
 ·have h':=not_or.1 h
  have h0 : snE s = 0:=Classical.byContradiction h'.1
  have ok:=zO.1 h0
  have oko : SnOk (ownS s):=zO.1 (by rw [<- e.err];exact h0)
  have hm : inZ mi 0 s.last = true:=by simpa using h'.2
  rw [zr] at hm
  obtain ⟨m0,rfl⟩ : ∃ m0 : Nat,mi = m0:=⟨mi.toNat,by omega⟩
  refine ⟨((fixR s m0 T).1 : Nat),((fixR s m0 T).2 : Nat),_,fun nl=>?_,fun nl=>rFixed_ok s hb ok m0 hm.2 nl T (by omega)⟩
  have:=za2 (ownS s) (ku hb) oko m0 hm.2 nl T (by omega)
  rw [<- e.fixR,<- e.home,<- e.drN,<- e.fixS] at this
  exact this
theorem zdi (s : Sn) (hb : SnB s) (p m l : Int) (T : List (Int × Int)) (hT : T.length <= 100) (ht : ∀ t ∈ T,-9223372036854775808 <= t.2 /\ t.2 <= 9223372036854775807) :
  ∃ (L : List Sta) (nf : Bool) (e : Int),L.length <= 200 /\ (∀ nl,Comp Tryz.prog 82 [snA (ownS s),xA p m l,.sl nl (T.map sgA)] (.tup [.sl nf (L.map staA),.int .i64 e])) /\ ∀ nl,Comp Tryz.prog 83 [rsA s,xA p m l,.sl nl (T.map sgA)] (.tup [.sl nf (L.map staA),.int .i64 e]):=by
 have e:=kL s
 by_cases h : sttE s p m l = 0
 ·have h2:=fun nl=>fDrive_ok (ownS s) (ku hb) p m l nl T (by omega) ht (by rw [<- e.sttE];exact h)
  have h3:=fun nl=>rDrive_ok s hb p m l nl T (by omega) h
  rw [<- e.safe,<- e.drvS] at h2
  have hlen : ∀ (T : List (Int × Int)) (x : Sta) L,drvS s (lowB l.toNat) x T = some L -> L.length <= T.length:=fun T=>by
   induction T with
   | nil=>intro x L h;cases h;exact Nat.le_refl _
   | cons t T ih =>
     intro x L h
     rw [drvS] at h
     cases hf : (zm s x t).find? fun y=>y.l.testBit (lowB l.toNat) with
     | none=>rw [hf] at h;cases h
     | some y =>
       rw [hf] at h
       dsimp only at h
       cases hq : drvS s (lowB l.toNat) y T with
       | none=>rw [hq] at h;cases h
       | some L' =>
         rw [hq] at h
         cases h
         have:=ih y L' hq
         simp only [List.length_cons];omega
  cases hD : (if zW s (stN p m l) = true then drvS s (lowB l.toNat) (stN p m l) T else none) with
  | none =>
    rw [hD] at h2 h3
    exact ⟨[],true,8,by simp,h2,h3⟩
  | some L =>
    rw [hD] at h2 h3
    have hL : L.length <= T.length:=by
     split at hD
     ·exact hlen _ _ _ hD
     ·cases hD
    exact ⟨stN p m l :: L,false,0,by simp only [List.length_cons];omega,h2,h3⟩
 ·refine ⟨[],true,sttE s p m l,by simp,fun nl=>?_,fun nl=>rDrive_no s hb p m l nl T h⟩
  rw [e.sttE]
  exact fDrive_no (ownS s) (ku hb) p m l nl T (by rw [<- e.sttE];exact h)
def rsZ' : List AV:=[.int .i64 0,.int .i64 0,.int .i64 0,.int .i64 0,.sl true [],.sl true [],.sl true []]
set_option maxHeartbeats 8000000 in
theorem zcV (s : Sn) (p m l : Int) (t : Int × Int) (ht1 : -9223372036854775808 <= t.2) (ht2 : t.2 <= 9223372036854775807) (nl : Bool) (T : List (Int × Int)) (hT0 : T.length < 9223372036854775808) (hT : ∀ t ∈ T,-9223372036854775808 <= t.2 /\ t.2 <= 9223372036854775807) (mi : Int) :
  Comp Tryz.prog 10 [snA s,xA p m l,sgA t,.sl nl (T.map sgA),.int .i64 mi] (.bool true):=by
 have hgr:=wb s
 have eT : ((T.map sgA).length : Int) = T.length:=by rw [List.length_map]
 have ea : (((([] : List Sta).map staA).length : Nat) : Int) = 0:=rfl
 have e00 : (([] : List AV).length : Int) = 0:=rfl
 have es : (((([] : List (Int × Int)).map sgA).length : Nat) : Int) = 0:=rfl
 by_cases hg : grtS s = true \/ 70 < T.length
 ·cases hgs : grtS s with
  | true =>
    rw [hgs] at hgr
    refine Comp.body (T:=tab) (res:=[.tmp 10]) za [] Tryz.func10 rfl (by kernel_rfl) Tryz.ntmps10 rfl (by simp only [List.length_cons,List.length_nil];decide) (by simp only [lowL,AV.low,snL,xL,sgL,zN];rfl) ?_;conv=>whnf
    repeat' first|((first|(with_reducible apply XBr.tt)|(first|refine zb.ret hgr ?_|refine zb.ret zA ?_));conv=>whnf)|fail
    exact XOut.bool rfl
  | false =>
    rw [hgs] at hgr hg
    have h70 : 70 < T.length:=by rcases hg with h | h;cases h;exact h
    refine Comp.body (T:=tab) (res:=[.tmp 10]) za [] Tryz.func10 rfl (by kernel_rfl) Tryz.ntmps10 rfl (by simp only [List.length_cons,List.length_nil];decide) (by simp only [lowL,AV.low,snL,xL,sgL,zN];rfl) ?_;conv=>whnf
    repeat' first|((with_reducible first|apply XBr.ff|refine XBr.y fun h=>?_|refine XBr.n fun h=>?_|refine XBr.dec (fun h=>?_) fun h=>?_) <;> conv=>whnf)|((first|refine zb.ret hgr ?_|refine zb.ret zA ?_);conv=>whnf)|fail
    exact XOut.bool rfl
 have hg':=not_or.1 hg
 have hgs : grtS s = false:=by simpa using hg'.1
 rw [hgs] at hgr
 have hb:=(grt_B hgs).1
 have hbo:=ku hb
 have e:=kL s
 have how:=qt s hb
 have hth:=jx s hb
 have hdu:=dup_stp nl T (by omega)
 have hst:=wc s hb p m l
 have hsa:=wV s hb
 have hga:=gone nl T (by omega)
 have hq:=eq_sg false nl T (by omega)
 obtain ⟨L,nf,eD,hL,hd1,hd2⟩:=zdi s hb p m l T (by omega) hT
 obtain ⟨fa,fw,eF,hf1,hf2⟩:=zdh s hb mi T (by omega)
 have hbe2:=been nf L (by omega)
 have hed:=eq_rsta L.isEmpty nf L (by omega)
 by_cases h0 : sttE s p m l = 0
 rotate_left
 ·have hsp:=fSteps_no (ownS s) hbo p m l (by rw [<- e.sttE];exact h0)
  have haf:=fAfter_no (ownS s) hbo p m l t (by rw [<- e.sttE];exact h0)
  rw [<- e.sttE] at hsp haf
  have hgo:=hga;have hgo2:=hga;have hbe:=hbe2;have hrs:=hga;have hra:=hga;have hes:=hed;have hea:=hed
  generalize sttE s p m l = v at h0 hst hsp haf
  refine Comp.body (T:=tab) (res:=[.tmp 10]) za [] Tryz.func10 rfl (by kernel_rfl) Tryz.ntmps10 rfl (by simp only [List.length_cons,List.length_nil];decide) (by simp only [lowL,AV.low,snL,xL,sgL,zN];rfl) ?_;conv=>whnf
  repeat' first|((with_reducible first|apply XBr.ff|refine XBr.y fun h=>?_|refine XBr.n fun h=>?_|refine XBr.dec (fun h=>?_) fun h=>?_) <;> conv=>whnf)|((refine zb.ret hgr ?_);conv=>whnf)|fail
  refine Walk.place (Walk.place (Walk.place ?_))
  apply Walk.drawX za zd [] [7,8,9,10,12,13] (fun fl=>match fl with
   | [a,b,c,x,y,z]=>[(bif a then .cells (bif x then snC (ownS s) else rsZ') else .free),(bif b then .cells (bif y then rsC s else rsZ') else .free),(bif c then .cells (bif z then [.int .i64 p,.int .i64 m,.int .i64 l] else [.int .i64 0,.int .i64 0,.int .i64 0]) else .free)]
   | _=>[]) [_,_,_,_,_,_,_,.ptr 0 0,.ptr 1 0,.ptr 2 0,_,_,_,_] (by kernel_rfl) rfl
  ·skip
   repeat' first|((with_reducible first|apply Chk.go|apply ChkA.go);conv=>whnf)|(with_reducible first|apply XAnd.mk|exact trivial)|(exact zg.mk rfl rfl)|((first|refine zb.ret how ?_|refine zb.ret hth ?_|refine zb.ret hdu ?_);conv=>whnf)|(first|((refine zt.at 0 rfl ?_);(conv=>whnf);exact zg.mk rfl rfl)|((refine zt.at 1 rfl ?_);(conv=>whnf);exact zg.mk rfl rfl)|((refine zt.at 2 rfl ?_);(conv=>whnf);exact zg.mk rfl rfl))|fail
  ·skip
   repeat' first|((with_reducible first|apply Chk.go|apply ChkF.go|apply ChkB.go);conv=>whnf)|(with_reducible first|apply XAnd.mk|exact trivial)|(exact zg.mk rfl rfl)|((first|refine zb.ret how ?_|refine zb.ret hth ?_|refine zb.ret hdu ?_);conv=>whnf)|(first|((refine zt.at 0 rfl ?_);(conv=>whnf);exact zg.mk rfl rfl)|((refine zt.at 1 rfl ?_);(conv=>whnf);exact zg.mk rfl rfl)|((refine zt.at 2 rfl ?_);(conv=>whnf);exact zg.mk rfl rfl))|fail
  conv=>whnf
  repeat' ((first|refine zb.ret hst ?_|refine zb.ret hsp ?_|refine zb.ret haf ?_);conv=>whnf)
  refine Walk.norm za [] [(3,_),(4,_),(5,_),(6,_),(7,_),(11,_),(12,_),(13,_),(14,_),(15,_),(16,_),(17,_),(18,_),(19,_)] ⟨rfl,rfl,rfl,rfl,rfl,rfl,rfl,rfl,rfl,rfl,rfl,rfl,rfl,rfl,trivial⟩ ?_
  conv=>whnf
  repeat' first|((with_reducible first|apply XBr.tt|apply XBr.ff|refine XBr.y fun h=>?_|refine XBr.n fun h=>?_|refine XBr.dec (fun h=>?_) fun h=>?_|refine XBr.y1 fun h=>?_|refine XBr.n1 fun h=>?_|refine XBr.beq (fun h=>?_) fun h=>?_|refine XBr.y2 fun h=>?_|refine XBr.n2 fun h=>?_|refine XBr.bne (fun h=>?_) fun h=>?_|refine XInt.a ?_|apply Chk.go|apply ChkA.go|apply ChkF.go|apply ChkB.go|apply zq.mk) <;> conv=>whnf)|(with_reducible first|apply XBr.not|apply XAnd.mk|exact trivial)|(exact zg.mk rfl rfl)|(apply Walk.drawN (id:=16) za zd [] [] (hsU _) [_,_,_,_,_,_,_,_,_,_] (by kernel_rfl) rfl)|(apply Walk.drawN (id:=20) za zd [] [] (hsU _) [_,_,_,_,_,_,_,_,_,_,_,_] (by kernel_rfl) rfl)|((first|refine zb.ret hga ?_|refine zb.ret hbe ?_|refine zb.ret hes ?_|refine zb.ret (hd1 _) ?_|refine zb.ret (hd2 _) ?_|refine zb.ret (hf1 _) ?_|refine zb.ret (hf2 _) ?_);conv=>whnf)|fail
  all_goals
   refine Walk.norm za [] [(3,_),(5,_),(11,_),(12,_),(15,_),(17,_),(23,_),(24,_),(25,_),(26,_)] ⟨rfl,rfl,rfl,rfl,rfl,rfl,rfl,rfl,rfl,rfl,trivial⟩ ?_
   conv=>whnf
   repeat' first|((with_reducible first|apply XBr.tt|refine XBr.y1 fun h=>?_|refine XBr.n1 fun h=>?_|refine XBr.beq (fun h=>?_) fun h=>?_) <;> conv=>whnf)|((first|refine zb.ret hsa ?_|refine zb.ret hq ?_|refine zb.ret zA ?_);conv=>whnf)|fail
   exact XOut.bool rfl
 have hoE : sttE (ownS s) p m l = 0:=by rw [<- e.sttE];exact h0
 obtain ⟨ok,h1,h2,h3,h4⟩:=yy.1 h0
 have hxe:=v9 h1.1 h2.1 (show 0 <= l by omega)
 have hx:=vL h0
 have hxl : (stN p m l).l <= allN s:=by show l.toNat <= allN s;omega
 have hsp:=zaT (ownS s) hbo p m l hoE
 have haf:=fAfter_ok (ownS s) hbo p m l t hoE ht1 ht2
 rw [<- e.steps] at hsp
 rw [<- e.after] at haf
 rw [h0] at hst
 have hrs:=fD s hb ok (stN p m l) hx hxl
 have hra:=vZ s hb ok (stN p m l) hx hxl t
 rw [<- hxe] at hrs hra
 have hsl : (zT s (stN p m l)).length <= 55:=by
  have hwl : (waysL s (stN p m l).p).length <= 55:=by
   have h:=yo s (stN p m l).p s.places.toNat
   have p2:=ok.p2;have w1:=ok.w1
   have h2 : s.places.toNat * (1 + s.ways.length) <= 5 * 11:=Nat.mul_le_mul (by omega) (by omega)
   show (yc s (stN p m l).p s.places.toNat).length <= 55
   omega
  exact Nat.le_trans (List.length_filter_le _ _) hwl
 have hal:=y8 s (stN p m l) t
 have hgo:=gone (zT s (stN p m l)).isEmpty (zT s (stN p m l)) (by omega)
 have hes:=eq_rsg (zT s (stN p m l)).isEmpty (zT s (stN p m l)).isEmpty (zT s (stN p m l)) (by omega)
 have hbe:=been (zm s (stN p m l) t).isEmpty (zm s (stN p m l) t) (by omega)
 have hea:=eq_rsta (zm s (stN p m l) t).isEmpty (zm s (stN p m l) t).isEmpty (zm s (stN p m l) t) (by omega)
 have hgo2:=hgo
 generalize zT s (stN p m l) = W at hsp hrs hsl hgo hes hgo2
 cases hA : zm s (stN p m l) t with
 | nil =>
   rw [hA] at haf hra hbe hea
   rw [if_pos rfl] at haf
   refine Comp.body (T:=tab) (res:=[.tmp 10]) za [] Tryz.func10 rfl (by kernel_rfl) Tryz.ntmps10 rfl (by simp only [List.length_cons,List.length_nil];decide) (by simp only [lowL,AV.low,snL,xL,sgL,zN];rfl) ?_;conv=>whnf
   repeat' first|((with_reducible first|apply XBr.ff|refine XBr.y fun h=>?_|refine XBr.n fun h=>?_|refine XBr.dec (fun h=>?_) fun h=>?_) <;> conv=>whnf)|((refine zb.ret hgr ?_);conv=>whnf)|fail
   refine Walk.place (Walk.place (Walk.place ?_))
   apply Walk.drawX za zd [] [7,8,9,10,12,13] (fun fl=>match fl with
    | [a,b,c,x,y,z]=>[(bif a then .cells (bif x then snC (ownS s) else rsZ') else .free),(bif b then .cells (bif y then rsC s else rsZ') else .free),(bif c then .cells (bif z then [.int .i64 p,.int .i64 m,.int .i64 l] else [.int .i64 0,.int .i64 0,.int .i64 0]) else .free)]
    | _=>[]) [_,_,_,_,_,_,_,.ptr 0 0,.ptr 1 0,.ptr 2 0,_,_,_,_] (by kernel_rfl) rfl
   ·skip
    repeat' first|((with_reducible first|apply Chk.go|apply ChkA.go);conv=>whnf)|(with_reducible first|apply XAnd.mk|exact trivial)|(exact zg.mk rfl rfl)|((first|refine zb.ret how ?_|refine zb.ret hth ?_|refine zb.ret hdu ?_);conv=>whnf)|(first|((refine zt.at 0 rfl ?_);(conv=>whnf);exact zg.mk rfl rfl)|((refine zt.at 1 rfl ?_);(conv=>whnf);exact zg.mk rfl rfl)|((refine zt.at 2 rfl ?_);(conv=>whnf);exact zg.mk rfl rfl))|fail
   ·skip
    repeat' first|((with_reducible first|apply Chk.go|apply ChkF.go|apply ChkB.go);conv=>whnf)|(with_reducible first|apply XAnd.mk|exact trivial)|(exact zg.mk rfl rfl)|((first|refine zb.ret how ?_|refine zb.ret hth ?_|refine zb.ret hdu ?_);conv=>whnf)|(first|((refine zt.at 0 rfl ?_);(conv=>whnf);exact zg.mk rfl rfl)|((refine zt.at 1 rfl ?_);(conv=>whnf);exact zg.mk rfl rfl)|((refine zt.at 2 rfl ?_);(conv=>whnf);exact zg.mk rfl rfl))|fail
   conv=>whnf
   repeat' ((first|refine zb.ret hst ?_|refine zb.ret hsp ?_|refine zb.ret haf ?_);conv=>whnf)
   refine Walk.norm za [] [(3,_),(4,_),(5,_),(6,_),(7,_),(11,_),(12,_),(13,_),(14,_),(15,_),(16,_),(17,_),(18,_),(19,_)] ⟨rfl,rfl,rfl,rfl,rfl,rfl,rfl,rfl,rfl,rfl,rfl,rfl,rfl,rfl,trivial⟩ ?_
   conv=>whnf
   repeat' first|((with_reducible first|apply XBr.tt|apply XBr.ff|refine XBr.y1 fun h=>?_|refine XBr.n1 fun h=>?_|refine XBr.beq (fun h=>?_) fun h=>?_|refine XBr.y2 fun h=>?_|refine XBr.n2 fun h=>?_|refine XBr.bne (fun h=>?_) fun h=>?_|apply Chk.go|apply ChkA.go|apply ChkF.go|apply ChkB.go|apply zq.mk) <;> conv=>whnf)|(with_reducible first|apply XBr.not|apply XAnd.mk|exact trivial)|(exact zg.mk rfl rfl)|(apply Walk.drawN (id:=13) za zd [] [] (hsU _) [_,_,_,_,_,_,_,_,_,_,_,_,_,_,_,_,_,_,_] (by kernel_rfl) rfl)|(apply Walk.drawN (id:=16) za zd [] [] (hsU _) [_,_,_,_,_,_,_,_,_,_] (by kernel_rfl) rfl)|(apply Walk.drawN (id:=20) za zd [] [] (hsU _) [_,_,_,_,_,_,_,_,_,_,_,_] (by kernel_rfl) rfl)|((first|refine zb.ret hga ?_|refine zb.ret hgo ?_|refine zb.ret hbe ?_|refine zb.ret hbe2 ?_|refine zb.ret hrs ?_|refine zb.ret hra ?_|refine zb.ret hes ?_|refine zb.ret hea ?_|refine zb.ret hed ?_|refine zb.ret (hd1 _) ?_|refine zb.ret (hd2 _) ?_|refine zb.ret (hf1 _) ?_|refine zb.ret (hf2 _) ?_);conv=>whnf)|fail
   all_goals
    refine Walk.norm za [] [(3,_),(5,_),(11,_),(12,_),(15,_),(17,_),(23,_),(24,_),(25,_),(26,_)] ⟨rfl,rfl,rfl,rfl,rfl,rfl,rfl,rfl,rfl,rfl,trivial⟩ ?_
    conv=>whnf
    repeat' first|((with_reducible first|apply XBr.tt|refine XBr.y1 fun h=>?_|refine XBr.n1 fun h=>?_|refine XBr.beq (fun h=>?_) fun h=>?_) <;> conv=>whnf)|((first|refine zb.ret hsa ?_|refine zb.ret hq ?_|refine zb.ret zA ?_);conv=>whnf)|fail
    exact XOut.bool rfl
 | cons y0 A =>
   rw [hA] at haf hra hbe hea
   rw [if_neg (by simp)] at haf
   have e2 : (((y0 :: A).map staA).length : Int) = A.length + 1:=by rw [List.length_map,List.length_cons];omega
   generalize hB : y0 :: A = B at haf hra hbe hea e2
   refine Comp.body (T:=tab) (res:=[.tmp 10]) za [] Tryz.func10 rfl (by kernel_rfl) Tryz.ntmps10 rfl (by simp only [List.length_cons,List.length_nil];decide) (by simp only [lowL,AV.low,snL,xL,sgL,zN];rfl) ?_;conv=>whnf
   repeat' first|((with_reducible first|apply XBr.ff|refine XBr.y fun h=>?_|refine XBr.n fun h=>?_|refine XBr.dec (fun h=>?_) fun h=>?_) <;> conv=>whnf)|((refine zb.ret hgr ?_);conv=>whnf)|fail
   refine Walk.place (Walk.place (Walk.place ?_))
   apply Walk.drawX za zd [] [7,8,9,10,12,13] (fun fl=>match fl with
    | [a,b,c,x,y,z]=>[(bif a then .cells (bif x then snC (ownS s) else rsZ') else .free),(bif b then .cells (bif y then rsC s else rsZ') else .free),(bif c then .cells (bif z then [.int .i64 p,.int .i64 m,.int .i64 l] else [.int .i64 0,.int .i64 0,.int .i64 0]) else .free)]
    | _=>[]) [_,_,_,_,_,_,_,.ptr 0 0,.ptr 1 0,.ptr 2 0,_,_,_,_] (by kernel_rfl) rfl
   ·skip
    repeat' first|((with_reducible first|apply Chk.go|apply ChkA.go);conv=>whnf)|(with_reducible first|apply XAnd.mk|exact trivial)|(exact zg.mk rfl rfl)|((first|refine zb.ret how ?_|refine zb.ret hth ?_|refine zb.ret hdu ?_);conv=>whnf)|(first|((refine zt.at 0 rfl ?_);(conv=>whnf);exact zg.mk rfl rfl)|((refine zt.at 1 rfl ?_);(conv=>whnf);exact zg.mk rfl rfl)|((refine zt.at 2 rfl ?_);(conv=>whnf);exact zg.mk rfl rfl))|fail
   ·skip
    repeat' first|((with_reducible first|apply Chk.go|apply ChkF.go|apply ChkB.go);conv=>whnf)|(with_reducible first|apply XAnd.mk|exact trivial)|(exact zg.mk rfl rfl)|((first|refine zb.ret how ?_|refine zb.ret hth ?_|refine zb.ret hdu ?_);conv=>whnf)|(first|((refine zt.at 0 rfl ?_);(conv=>whnf);exact zg.mk rfl rfl)|((refine zt.at 1 rfl ?_);(conv=>whnf);exact zg.mk rfl rfl)|((refine zt.at 2 rfl ?_);(conv=>whnf);exact zg.mk rfl rfl))|fail
   conv=>whnf
   repeat' ((first|refine zb.ret hst ?_|refine zb.ret hsp ?_|refine zb.ret haf ?_);conv=>whnf)
   refine Walk.norm za [] [(3,_),(4,_),(5,_),(6,_),(7,_),(11,_),(12,_),(13,_),(14,_),(15,_),(16,_),(17,_),(18,_),(19,_)] ⟨rfl,rfl,rfl,rfl,rfl,rfl,rfl,rfl,rfl,rfl,rfl,rfl,rfl,rfl,trivial⟩ ?_
   conv=>whnf
   repeat' first|((with_reducible first|apply XBr.tt|apply XBr.ff|refine XBr.y1 fun h=>?_|refine XBr.n1 fun h=>?_|refine XBr.beq (fun h=>?_) fun h=>?_|refine XBr.y2 fun h=>?_|refine XBr.n2 fun h=>?_|refine XBr.bne (fun h=>?_) fun h=>?_|apply Chk.go|apply ChkA.go|apply ChkF.go|apply ChkB.go|apply zq.mk) <;> conv=>whnf)|(with_reducible first|apply XBr.not|apply XAnd.mk|exact trivial)|(exact zg.mk rfl rfl)|(apply Walk.drawN (id:=13) za zd [] [] (hsU _) [_,_,_,_,_,_,_,_,_,_,_,_,_,_,_,_,_,_,_] (by kernel_rfl) rfl)|(apply Walk.drawN (id:=16) za zd [] [] (hsU _) [_,_,_,_,_,_,_,_,_,_] (by kernel_rfl) rfl)|(apply Walk.drawN (id:=20) za zd [] [] (hsU _) [_,_,_,_,_,_,_,_,_,_,_,_] (by kernel_rfl) rfl)|((first|refine zb.ret hga ?_|refine zb.ret hgo ?_|refine zb.ret hbe ?_|refine zb.ret hbe2 ?_|refine zb.ret hrs ?_|refine zb.ret hra ?_|refine zb.ret hes ?_|refine zb.ret hea ?_|refine zb.ret hed ?_|refine zb.ret (hd1 _) ?_|refine zb.ret (hd2 _) ?_|refine zb.ret (hf1 _) ?_|refine zb.ret (hf2 _) ?_);conv=>whnf)|fail
   all_goals
    refine Walk.norm za [] [(3,_),(5,_),(11,_),(12,_),(15,_),(17,_),(23,_),(24,_),(25,_),(26,_)] ⟨rfl,rfl,rfl,rfl,rfl,rfl,rfl,rfl,rfl,rfl,trivial⟩ ?_
    conv=>whnf
    repeat' first|((with_reducible first|apply XBr.tt|refine XBr.y1 fun h=>?_|refine XBr.n1 fun h=>?_|refine XBr.beq (fun h=>?_) fun h=>?_) <;> conv=>whnf)|((first|refine zb.ret hsa ?_|refine zb.ret hq ?_|refine zb.ret zA ?_);conv=>whnf)|fail
    exact XOut.bool rfl
end GA
end
section
namespace GA
open Go Go.RowKit Go.Proofs
def ruleA (g : FuncId) (nt : Bool) (T : List Rs) : AV:=.agg [.fn g [.pim [.sl nt (T.map rsT)]]]
theorem ruleL {n : Nat} (g : FuncId) (nt : Bool) (T : List Rs) : (ruleA g nt T).low n = true:=by
 unfold ruleA;simp only [lowL,AV.low,zZ];rfl
theorem hold1_c (s : Sn) (nt : Bool) (T : List Rs) (h : TbOk s T) (y : Sta) (hy : vld s y) (b : Int) : Comp Tryz.prog 259 [staA y,.int .i64 b,.pim [.sl nt (T.map rsT)]] (.bool (decide (tbN T y <= b))):=by
 obtain ⟨h1,h2,h3,h4,h5⟩:=h.at hy
 have e1 : ((T.map rsT).length : Int) = T.length:=by rw [List.length_map]
 have e2 : (((T.getD y.p default).2.map rwA).length : Int) = (T.getD y.p default).2.length:=by rw [List.length_map]
 have e3 : ((ints ((T.getD y.p default).2.getD y.m default).2).length : Int) = ((T.getD y.p default).2.getD y.m default).2.length:=by rw [zK]
 refine Comp.body (T:=tab) (res:=[.tmp 5]) za [] Tryz.func259 rfl (by kernel_rfl) Tryz.ntmps259 rfl (by simp only [List.length_cons,List.length_nil];decide) (by simp only [lowL,AV.low,staL,zZ];rfl) ?_;conv=>whnf
 repeat' first|((with_reducible first|apply Chk.go|apply ChkA.go|apply ChkF.go|apply ChkB.go|apply zq.mk);conv=>whnf)|(refine XIx.a ?_;conv=>whnf)|(with_reducible first|apply XAnd.mk|exact trivial)|(exact zg.mk rfl rfl)|(apply Walk.drawN (id:=1) za zd [] [] (hsU _) [_,_,_,_,_,_,_,_,_,_,_,_,_,_,_,_] (by kernel_rfl) rfl)|fail
 exact XOut.bool rfl
theorem kept_hold (s : Sn) (ok : SnOk s) (nt : Bool) (T : List Rs) (hT : TbOk s T) (B : Bool) (hB : B = true ↔ ∀ y,vld s y -> tbN T y <= zM s (tbN T) y) :
  Comp Tryz.prog 258 [zF s,.sl nt (T.map rsT),ruleA 259 nt T] (.bool B):=by
 have p1:=ok.p1;have p2:=ok.p2;have l1:=ok.l1;have l2:=ok.l2
 have hal:=ym ok
 have hac:=vb s ok
 obtain ⟨P0,hP0⟩ : ∃ P0 : Nat,s.places = P0:=⟨s.places.toNat,by omega⟩
 obtain ⟨L0,hL0⟩ : ∃ L0 : Nat,s.last = L0:=⟨s.last.toNat,by omega⟩
 refine Comp.body (T:=tab) (res:=[.tmp 6]) za [] Tryz.func258 rfl (by kernel_rfl) Tryz.ntmps258 rfl (by simp only [List.length_cons,List.length_nil];decide) (by simp only [lowL,AV.low,zG,zZ,ruleL];rfl) ?_;conv=>whnf
 skip
 refine Walk.loopK za [] [(0,_),(5,_),(7,_),(17,_)] ⟨rfl,rfl,rfl,rfl,trivial⟩ (fun p : Nat=>p <= P0 /\ ∀ y : Sta,vld s y -> y.p < p -> tbN T y <= zM s (tbN T) y) (fun p=>[(18,natA p)]) (fun _=>[]) (fun p=>P0 - p) 0 ⟨Nat.zero_le _,fun y hy h=>by omega⟩ rfl ⟨rfl,trivial⟩ ?_
 rintro p ⟨hp,hI⟩
 conv=>whnf
 by_cases hlt : p < P0
 ·skip
  repeat' ((with_reducible first|refine XBr.y fun h=>?_|refine XBr.n fun h=>?_|refine XBr.dec (fun h=>?_) fun h=>?_|refine XInt.a ?_) <;> conv=>whnf)
  refine Walk.loopK za [] [(0,_),(5,_),(7,_),(8,_),(17,_),(18,_),(26,_)] ⟨rfl,rfl,rfl,rfl,rfl,rfl,rfl,trivial⟩ (fun m : Nat=>m <= L0 + 1 /\ ∀ y : Sta,vld s y -> y.p < p \/ (y.p = p /\ y.m < m) -> tbN T y <= zM s (tbN T) y) (fun m=>[(27,natA m)]) (fun _=>[]) (fun m=>L0 + 1 - m) 0 ⟨Nat.zero_le _,fun y hy h=>hI y hy (by omega)⟩ rfl ⟨rfl,trivial⟩ ?_
  rintro m ⟨hm,hI⟩
  conv=>whnf
  by_cases hlt2 : m < L0 + 1
  ·skip
   repeat' first|((with_reducible first|refine XBr.y fun h=>?_|refine XBr.n fun h=>?_|refine XBr.dec (fun h=>?_) fun h=>?_|refine XInt.a ?_) <;> conv=>whnf)|((refine zb.ret hac ?_);conv=>whnf)|fail
   refine Walk.loopGK za [] [(0,_),(5,_),(7,_),(8,_),(9,_),(17,_),(18,_),(26,_),(27,_),(32,_)] ⟨rfl,rfl,rfl,rfl,rfl,rfl,rfl,rfl,rfl,rfl,trivial⟩ (fun l : Nat=>l <= allN s + 1 /\ ∀ y : Sta,vld s y -> y.p < p \/ (y.p = p /\ (y.m < m \/ (y.m = m /\ y.l < l))) -> tbN T y <= zM s (tbN T) y) (fun l=>[(33,natA l)]) (fun _=>[]) (fun l=>allN s + 1 - l) 0 ⟨Nat.zero_le _,fun y hy h=>hI y hy (by omega)⟩ rfl ⟨rfl,trivial⟩ ?_ (fun _ _=>(show (0 : Nat) <= 0 from Nat.le_refl 0)) ?_
   ·intro k _
    refine ⟨by simp,fun z hz=>?_⟩
    simp only [List.cons_append,List.nil_append,List.mem_cons,List.not_mem_nil,or_false] at hz
    rcases hz with rfl | rfl | rfl | rfl | rfl | rfl | rfl | rfl | rfl | rfl | rfl <;> first | rfl|exact zG s|(simp only [lowL,AV.low,zZ];rfl)
   rintro l ⟨hl,hI⟩
   conv=>whnf
   by_cases hlt3 : l < allN s + 1
   ·have hv : vld s ⟨p,m,l⟩:=⟨by show (p : Int) < s.places;omega,by show (m : Int) <= s.last;omega,by show l <= allN s;omega⟩
    have hbe:=best_tb nt T s ok (tbN T) ⟨p,m,l⟩ ⟨by show (p : Int) < s.places;omega,by show (m : Int) <= s.last;omega,by show l <= _;omega⟩ (by simp only [lowL,AV.low,zZ];rfl) (fun t y hy=>zcq s nt T hT y (yf ok hy)) (fun t y hy=>by have:=(hT.at (yf ok hy)).2.2.2;omega)
    have hst : staA ⟨p,m,l⟩ = .agg [natA p,natA m,natA l]:=rfl
    have hru:=hold1_c s nt T hT ⟨p,m,l⟩ hv
    rw [hst] at hbe hru
    generalize hbz : zM s (tbN T) ⟨p,m,l⟩ = bz at hbe
    have hru:=hru bz
    cases hd : (decide (tbN T ⟨p,m,l⟩ <= bz)) with
    | true =>
      rw [hd] at hru
      repeat' first|((with_reducible first|apply XBr.tt|refine XBr.y fun h=>?_|refine XBr.n fun h=>?_|refine XBr.dec (fun h=>?_) fun h=>?_|refine XInt.a ?_|apply Chk.go|apply ChkA.go|apply ChkF.go|apply ChkB.go|apply zq.mk) <;> conv=>whnf)|(with_reducible first|apply XBr.not|apply XAnd.mk|exact trivial)|(exact zg.mk rfl rfl)|(apply Walk.drawN (id:=12) za zd [] [] (hsU _) [_,_,_,_,_,_,_,_,_] (by kernel_rfl) rfl)|((first|refine zb.ret hbe ?_|refine zb.ret hru ?_);conv=>whnf)|fail
      refine zl.go (l + 1) [.cells [natA p,natA m,natA l]] ⟨by omega,fun y hy h=>?_⟩ (by omega) rfl ⟨rfl,rfl,rfl,rfl,rfl,rfl,rfl,rfl,rfl,rfl,rfl,trivial⟩
      by_cases e : y = ⟨p,m,l⟩
      ·subst e;rw [hbz];exact of_decide_eq_true hd
      ·refine hI y hy ?_
       have : ¬ (y.p = p /\ y.m = m /\ y.l = l):=fun ⟨a,b,c⟩=>e (by cases y;simp_all)
       omega
    | false =>
      rw [hd] at hru
      have hBf : B = false:=by
       rw [<- Bool.not_eq_true,hB]
       intro h'
       have:=h' _ hv
       rw [hbz] at this
       exact absurd (decide_eq_true this) (by rw [hd];simp)
      repeat' first|((with_reducible first|apply XBr.ff|refine XBr.y fun h=>?_|refine XBr.n fun h=>?_|refine XBr.dec (fun h=>?_) fun h=>?_|apply Chk.go|apply ChkA.go|apply ChkF.go|apply ChkB.go|apply zq.mk) <;> conv=>whnf)|(with_reducible first|apply XBr.not|apply XAnd.mk|exact trivial)|(exact zg.mk rfl rfl)|(apply Walk.drawN (id:=12) za zd [] [] (hsU _) [_,_,_,_,_,_,_,_,_] (by kernel_rfl) rfl)|((first|refine zb.ret hbe ?_|refine zb.ret hru ?_);conv=>whnf)|fail
      exact XOut.bool hBf.symm
   obtain rfl : l = allN s + 1:=by omega
   repeat' ((with_reducible first|refine XBr.y fun h=>?_|refine XBr.n fun h=>?_|refine XBr.dec (fun h=>?_) fun h=>?_|refine XInt.a ?_) <;> conv=>whnf)
   refine zj.go (m + 1) ⟨by omega,fun y hy h=>hI y hy ?_⟩ (by omega) rfl ⟨rfl,rfl,rfl,rfl,rfl,rfl,rfl,rfl,trivial⟩
   have:=hy.2.2
   omega
  obtain rfl : m = L0 + 1:=by omega
  repeat' ((with_reducible first|refine XBr.y fun h=>?_|refine XBr.n fun h=>?_|refine XBr.dec (fun h=>?_) fun h=>?_|refine XInt.a ?_) <;> conv=>whnf)
  refine zj.go (p + 1) ⟨by omega,fun y hy h=>hI y hy ?_⟩ (by omega) rfl ⟨rfl,rfl,rfl,rfl,rfl,trivial⟩
  have:=hy.2.1
  omega
 obtain rfl : p = P0:=by omega
 have hBt : B = true:=hB.2 fun y hy=>hI y hy (by have:=hy.1;omega)
 repeat' ((with_reducible first|refine XBr.y fun h=>?_|refine XBr.n fun h=>?_|refine XBr.dec (fun h=>?_) fun h=>?_) <;> conv=>whnf)
 exact XOut.bool hBt.symm
theorem clos1_c (s : Sn) (nt : Bool) (T : List Rs) (h : TbOk s T) (y : Sta) (hy : vld s y) (b : Int) : Comp Tryz.prog 260 [staA y,.int .i64 b,.pim [.sl nt (T.map rsT)]] (.bool (decide (tbN T y ≥ b))):=by
 obtain ⟨h1,h2,h3,h4,h5⟩:=h.at hy
 have e1 : ((T.map rsT).length : Int) = T.length:=by rw [List.length_map]
 have e2 : (((T.getD y.p default).2.map rwA).length : Int) = (T.getD y.p default).2.length:=by rw [List.length_map]
 have e3 : ((ints ((T.getD y.p default).2.getD y.m default).2).length : Int) = ((T.getD y.p default).2.getD y.m default).2.length:=by rw [zK]
 refine Comp.body (T:=tab) (res:=[.tmp 5]) za [] Tryz.func260 rfl (by kernel_rfl) Tryz.ntmps260 rfl (by simp only [List.length_cons,List.length_nil];decide) (by simp only [lowL,AV.low,staL,zZ];rfl) ?_;conv=>whnf
 repeat' first|((with_reducible first|apply Chk.go|apply ChkA.go|apply ChkF.go|apply ChkB.go|apply zq.mk);conv=>whnf)|(refine XIx.a ?_;conv=>whnf)|(with_reducible first|apply XAnd.mk|exact trivial)|(exact zg.mk rfl rfl)|(apply Walk.drawN (id:=1) za zd [] [] (hsU _) [_,_,_,_,_,_,_,_,_,_,_,_,_,_,_,_] (by kernel_rfl) rfl)|fail
 exact XOut.bool rfl
theorem kept_clos (s : Sn) (ok : SnOk s) (nt : Bool) (T : List Rs) (hT : TbOk s T) (B : Bool) (hB : B = true ↔ ∀ y,vld s y -> tbN T y ≥ zM s (tbN T) y) :
  Comp Tryz.prog 258 [zF s,.sl nt (T.map rsT),ruleA 260 nt T] (.bool B):=by
 have p1:=ok.p1;have p2:=ok.p2;have l1:=ok.l1;have l2:=ok.l2
 have hal:=ym ok
 have hac:=vb s ok
 obtain ⟨P0,hP0⟩ : ∃ P0 : Nat,s.places = P0:=⟨s.places.toNat,by omega⟩
 obtain ⟨L0,hL0⟩ : ∃ L0 : Nat,s.last = L0:=⟨s.last.toNat,by omega⟩
 refine Comp.body (T:=tab) (res:=[.tmp 6]) za [] Tryz.func258 rfl (by kernel_rfl) Tryz.ntmps258 rfl (by simp only [List.length_cons,List.length_nil];decide) (by simp only [lowL,AV.low,zG,zZ,ruleL];rfl) ?_;conv=>whnf
 skip
 refine Walk.loopK za [] [(0,_),(5,_),(7,_),(17,_)] ⟨rfl,rfl,rfl,rfl,trivial⟩ (fun p : Nat=>p <= P0 /\ ∀ y : Sta,vld s y -> y.p < p -> tbN T y ≥ zM s (tbN T) y) (fun p=>[(18,natA p)]) (fun _=>[]) (fun p=>P0 - p) 0 ⟨Nat.zero_le _,fun y hy h=>by omega⟩ rfl ⟨rfl,trivial⟩ ?_
 rintro p ⟨hp,hI⟩
 conv=>whnf
 by_cases hlt : p < P0
 ·skip
  repeat' ((with_reducible first|refine XBr.y fun h=>?_|refine XBr.n fun h=>?_|refine XBr.dec (fun h=>?_) fun h=>?_|refine XInt.a ?_) <;> conv=>whnf)
  refine Walk.loopK za [] [(0,_),(5,_),(7,_),(8,_),(17,_),(18,_),(26,_)] ⟨rfl,rfl,rfl,rfl,rfl,rfl,rfl,trivial⟩ (fun m : Nat=>m <= L0 + 1 /\ ∀ y : Sta,vld s y -> y.p < p \/ (y.p = p /\ y.m < m) -> tbN T y ≥ zM s (tbN T) y) (fun m=>[(27,natA m)]) (fun _=>[]) (fun m=>L0 + 1 - m) 0 ⟨Nat.zero_le _,fun y hy h=>hI y hy (by omega)⟩ rfl ⟨rfl,trivial⟩ ?_
  rintro m ⟨hm,hI⟩
  conv=>whnf
  by_cases hlt2 : m < L0 + 1
  ·skip
   repeat' first|((with_reducible first|refine XBr.y fun h=>?_|refine XBr.n fun h=>?_|refine XBr.dec (fun h=>?_) fun h=>?_|refine XInt.a ?_) <;> conv=>whnf)|((refine zb.ret hac ?_);conv=>whnf)|fail
   refine Walk.loopGK za [] [(0,_),(5,_),(7,_),(8,_),(9,_),(17,_),(18,_),(26,_),(27,_),(32,_)] ⟨rfl,rfl,rfl,rfl,rfl,rfl,rfl,rfl,rfl,rfl,trivial⟩ (fun l : Nat=>l <= allN s + 1 /\ ∀ y : Sta,vld s y -> y.p < p \/ (y.p = p /\ (y.m < m \/ (y.m = m /\ y.l < l))) -> tbN T y ≥ zM s (tbN T) y) (fun l=>[(33,natA l)]) (fun _=>[]) (fun l=>allN s + 1 - l) 0 ⟨Nat.zero_le _,fun y hy h=>hI y hy (by omega)⟩ rfl ⟨rfl,trivial⟩ ?_ (fun _ _=>(show (0 : Nat) <= 0 from Nat.le_refl 0)) ?_
   ·intro k _
    refine ⟨by simp,fun z hz=>?_⟩
    simp only [List.cons_append,List.nil_append,List.mem_cons,List.not_mem_nil,or_false] at hz
    rcases hz with rfl | rfl | rfl | rfl | rfl | rfl | rfl | rfl | rfl | rfl | rfl <;> first | rfl|exact zG s|(simp only [lowL,AV.low,zZ];rfl)
   rintro l ⟨hl,hI⟩
   conv=>whnf
   by_cases hlt3 : l < allN s + 1
   ·have hv : vld s ⟨p,m,l⟩:=⟨by show (p : Int) < s.places;omega,by show (m : Int) <= s.last;omega,by show l <= allN s;omega⟩
    have hbe:=best_tb nt T s ok (tbN T) ⟨p,m,l⟩ ⟨by show (p : Int) < s.places;omega,by show (m : Int) <= s.last;omega,by show l <= _;omega⟩ (by simp only [lowL,AV.low,zZ];rfl) (fun t y hy=>zcq s nt T hT y (yf ok hy)) (fun t y hy=>by have:=(hT.at (yf ok hy)).2.2.2;omega)
    have hst : staA ⟨p,m,l⟩ = .agg [natA p,natA m,natA l]:=rfl
    have hru:=clos1_c s nt T hT ⟨p,m,l⟩ hv
    rw [hst] at hbe hru
    generalize hbz : zM s (tbN T) ⟨p,m,l⟩ = bz at hbe
    have hru:=hru bz
    cases hd : (decide (tbN T ⟨p,m,l⟩ ≥ bz)) with
    | true =>
      rw [hd] at hru
      repeat' first|((with_reducible first|apply XBr.tt|refine XBr.y fun h=>?_|refine XBr.n fun h=>?_|refine XBr.dec (fun h=>?_) fun h=>?_|refine XInt.a ?_|apply Chk.go|apply ChkA.go|apply ChkF.go|apply ChkB.go|apply zq.mk) <;> conv=>whnf)|(with_reducible first|apply XBr.not|apply XAnd.mk|exact trivial)|(exact zg.mk rfl rfl)|(apply Walk.drawN (id:=12) za zd [] [] (hsU _) [_,_,_,_,_,_,_,_,_] (by kernel_rfl) rfl)|((first|refine zb.ret hbe ?_|refine zb.ret hru ?_);conv=>whnf)|fail
      refine zl.go (l + 1) [.cells [natA p,natA m,natA l]] ⟨by omega,fun y hy h=>?_⟩ (by omega) rfl ⟨rfl,rfl,rfl,rfl,rfl,rfl,rfl,rfl,rfl,rfl,rfl,trivial⟩
      by_cases e : y = ⟨p,m,l⟩
      ·subst e;rw [hbz];exact of_decide_eq_true hd
      ·refine hI y hy ?_
       have : ¬ (y.p = p /\ y.m = m /\ y.l = l):=fun ⟨a,b,c⟩=>e (by cases y;simp_all)
       omega
    | false =>
      rw [hd] at hru
      have hBf : B = false:=by
       rw [<- Bool.not_eq_true,hB]
       intro h'
       have:=h' _ hv
       rw [hbz] at this
       exact absurd (decide_eq_true this) (by rw [hd];simp)
      repeat' first|((with_reducible first|apply XBr.ff|refine XBr.y fun h=>?_|refine XBr.n fun h=>?_|refine XBr.dec (fun h=>?_) fun h=>?_|apply Chk.go|apply ChkA.go|apply ChkF.go|apply ChkB.go|apply zq.mk) <;> conv=>whnf)|(with_reducible first|apply XBr.not|apply XAnd.mk|exact trivial)|(exact zg.mk rfl rfl)|(apply Walk.drawN (id:=12) za zd [] [] (hsU _) [_,_,_,_,_,_,_,_,_] (by kernel_rfl) rfl)|((first|refine zb.ret hbe ?_|refine zb.ret hru ?_);conv=>whnf)|fail
      exact XOut.bool hBf.symm
   obtain rfl : l = allN s + 1:=by omega
   repeat' ((with_reducible first|refine XBr.y fun h=>?_|refine XBr.n fun h=>?_|refine XBr.dec (fun h=>?_) fun h=>?_|refine XInt.a ?_) <;> conv=>whnf)
   refine zj.go (m + 1) ⟨by omega,fun y hy h=>hI y hy ?_⟩ (by omega) rfl ⟨rfl,rfl,rfl,rfl,rfl,rfl,rfl,rfl,trivial⟩
   have:=hy.2.2
   omega
  obtain rfl : m = L0 + 1:=by omega
  repeat' ((with_reducible first|refine XBr.y fun h=>?_|refine XBr.n fun h=>?_|refine XBr.dec (fun h=>?_) fun h=>?_|refine XInt.a ?_) <;> conv=>whnf)
  refine zj.go (p + 1) ⟨by omega,fun y hy h=>hI y hy ?_⟩ (by omega) rfl ⟨rfl,rfl,rfl,rfl,rfl,trivial⟩
  have:=hy.2.1
  omega
 obtain rfl : p = P0:=by omega
 have hBt : B = true:=hB.2 fun y hy=>hI y hy (by have:=hy.1;omega)
 repeat' ((with_reducible first|refine XBr.y fun h=>?_|refine XBr.n fun h=>?_|refine XBr.dec (fun h=>?_) fun h=>?_) <;> conv=>whnf)
 exact XOut.bool hBt.symm
theorem fhold_no (s : Sn) (hb : SnB s) (nt : Bool) (T : List Rs) (hT : TbB T) (h : tabE s T ≠ 0) : Comp Tryz.prog 94 [snA s,.sl nt (T.map rsT)] (.tup [.bool false,.int .i64 (tabE s T)]):=by
 have ht:=zaO s hb nt T hT h
 generalize tabE s T = e at h ht
 refine Comp.body (T:=tab) (res:=[.tmp 4,.tmp 5]) za [] Tryz.func94 rfl (by kernel_rfl) Tryz.ntmps94 rfl (by simp only [List.length_cons,List.length_nil];decide) (by simp only [lowL,AV.low,snL,zZ];rfl) ?_;conv=>whnf
 repeat' first|((with_reducible first|refine XBr.y2 fun h=>?_|refine XBr.n2 fun h=>?_|refine XBr.bne (fun h=>?_) fun h=>?_) <;> conv=>whnf)|((refine zb.ret ht ?_);conv=>whnf)|fail
 exact ⟨.low rfl⟩
theorem fhold_ok (s : Sn) (hb : SnB s) (nt : Bool) (T : List Rs) (hT : TbB T) (h : tabE s T = 0) (B : Bool) (hB : B = true ↔ ∀ y,vld s y -> tbN T y <= zM s (tbN T) y) : Comp Tryz.prog 94 [snA s,.sl nt (T.map rsT)] (.tup [.bool B,.int .i64 0]):=by
 have ht:=zaz s hb nt T hT h
 obtain ⟨ok,hM,hV⟩:=v4.1 h
 have hk:=kept_hold s ok nt T (vq hM hV) B hB
 refine Comp.body (T:=tab) (res:=[.tmp 4,.tmp 5]) za [] Tryz.func94 rfl (by kernel_rfl) Tryz.ntmps94 rfl (by simp only [List.length_cons,List.length_nil];decide) (by simp only [lowL,AV.low,snL,zZ];rfl) ?_;conv=>whnf
 repeat' first|((with_reducible first|refine XBr.y2 fun h=>?_|refine XBr.n2 fun h=>?_|refine XBr.bne (fun h=>?_) fun h=>?_) <;> conv=>whnf)|((first|refine zb.ret ht ?_|refine zb.ret hk ?_);conv=>whnf)|fail
 exact ⟨.low rfl⟩
theorem fclos_no (s : Sn) (hb : SnB s) (nt : Bool) (T : List Rs) (hT : TbB T) (h : tabE s T ≠ 0) : Comp Tryz.prog 95 [snA s,.sl nt (T.map rsT)] (.tup [.bool false,.int .i64 (tabE s T)]):=by
 have ht:=zaO s hb nt T hT h
 generalize tabE s T = e at h ht
 refine Comp.body (T:=tab) (res:=[.tmp 4,.tmp 5]) za [] Tryz.func95 rfl (by kernel_rfl) Tryz.ntmps95 rfl (by simp only [List.length_cons,List.length_nil];decide) (by simp only [lowL,AV.low,snL,zZ];rfl) ?_;conv=>whnf
 repeat' first|((with_reducible first|refine XBr.y2 fun h=>?_|refine XBr.n2 fun h=>?_|refine XBr.bne (fun h=>?_) fun h=>?_) <;> conv=>whnf)|((refine zb.ret ht ?_);conv=>whnf)|fail
 exact ⟨.low rfl⟩
theorem fclos_ok (s : Sn) (hb : SnB s) (nt : Bool) (T : List Rs) (hT : TbB T) (h : tabE s T = 0) (B : Bool) (hB : B = true ↔ ∀ y,vld s y -> tbN T y ≥ zM s (tbN T) y) : Comp Tryz.prog 95 [snA s,.sl nt (T.map rsT)] (.tup [.bool B,.int .i64 0]):=by
 have ht:=zaz s hb nt T hT h
 obtain ⟨ok,hM,hV⟩:=v4.1 h
 have hk:=kept_clos s ok nt T (vq hM hV) B hB
 refine Comp.body (T:=tab) (res:=[.tmp 4,.tmp 5]) za [] Tryz.func95 rfl (by kernel_rfl) Tryz.ntmps95 rfl (by simp only [List.length_cons,List.length_nil];decide) (by simp only [lowL,AV.low,snL,zZ];rfl) ?_;conv=>whnf
 repeat' first|((with_reducible first|refine XBr.y2 fun h=>?_|refine XBr.n2 fun h=>?_|refine XBr.bne (fun h=>?_) fun h=>?_) <;> conv=>whnf)|((first|refine zb.ret ht ?_|refine zb.ret hk ?_);conv=>whnf)|fail
 exact ⟨.low rfl⟩
end GA
end
section
namespace GA
open Go Go.RowKit Go.Proofs
theorem rNumber_c (s : Sn) (nt : Bool) (T : List Rs) (h : TbOk s T) (y : Sta) (hy : vld s y) : Comp Tryz.prog 256 [.sl nt (T.map rsT),staA y] (.int .i64 (tbN T y)):=by
 obtain ⟨h1,h2,h3,h4,h5⟩:=h.at hy
 have e1 : ((T.map rsT).length : Int) = T.length:=by rw [List.length_map]
 have e2 : (((T.getD y.p default).2.map rwA).length : Int) = (T.getD y.p default).2.length:=by rw [List.length_map]
 have e3 : ((ints ((T.getD y.p default).2.getD y.m default).2).length : Int) = ((T.getD y.p default).2.getD y.m default).2.length:=by rw [zK]
 refine Comp.body (T:=tab) (res:=[.tmp 4]) za [] Tryz.func256 rfl (by kernel_rfl) Tryz.ntmps256 rfl (by simp only [List.length_cons,List.length_nil];decide) (by simp only [lowL,AV.low,staL,zZ];rfl) ?_;conv=>whnf
 repeat' first|((with_reducible first|apply Chk.go|apply ChkA.go|apply ChkF.go|apply ChkB.go|apply zq.mk);conv=>whnf)|(refine XIx.a ?_;conv=>whnf)|(with_reducible first|apply XAnd.mk|exact trivial)|(exact zg.mk rfl rfl)|(apply Walk.drawN (id:=1) za zd [] [] (hsU _) [_,_,_,_,_,_,_,_,_,_,_,_,_,_] (by kernel_rfl) rfl)|fail
 exact XOut.int rfl
def mnK (f : Sta -> Int) (l : List Sta) : Int:=if l.isEmpty = true then -1 else minL f l
theorem mnK_next (f : Sta -> Int) (l : List Sta) (y : Sta) : mnK f (l ++ [y]) = if l.isEmpty = true \/ f y < mnK f l then f y else mnK f l:=by
 cases l with
 | nil=>rw [if_pos (.inl rfl)];rfl
 | cons x l =>
   have h1 : mnK f (x :: l) = minL f (x :: l):=if_neg (by simp)
   have h2 : mnK f (x :: l ++ [y]) = min (minL f (x :: l)) (f y):=by
    rw [mnK,if_neg (by simp)]
    show (l ++ [y]).foldl (fun n y=>min n (f y)) (f x) = _
    rw [List.foldl_append];rfl
   rw [h1,h2]
   by_cases h : f y < minL f (x :: l)
   ·rw [if_pos (.inr h)];omega
   ·rw [if_neg (by simp [h])];omega
theorem zcl (s : Sn) (hb : SnB s) (ok : SnOk s) (nt : Bool) (T : List Rs) (hT : TbOk s T) (x : Sta) (hx : StOk s x) (hxl : x.l <= allN s) (t : Int × Int) (y0 : Sta) (l0 : List Sta) (ha : zm s x t = y0 :: l0) :
  Comp Tryz.prog 91 [rsA s,.sl nt (T.map rsT),staA x,sgA t] (.int .i64 (zP s (tbN T) x t)):=by
 have hra:=vZ s hb ok x hx hxl t
 have hvy:=fun y (hy : y ∈ zm s x t)=>yf ok hy
 have hal:=y8 s x t
 rw [gG]
 rw [ha] at hra hvy hal ⊢
 have hne : y0 :: l0 ≠ []:=List.cons_ne_nil _ _
 have hpos : 0 < (y0 :: l0).length:=by simp
 generalize hl : y0 :: l0 = l at hra hvy hal hne hpos
 have hie : l.isEmpty = false:=by rw [<- hl];rfl
 have hmm:=jZ (f:=tbN T) hne
 have hra' : Comp Tryz.prog 76 [rsA s,staA x,sgA t] (.sl false (l.map staA)):=by rw [<- hl] at hra ⊢;exact hra
 have e1 : ((l.map staA).length : Int) = l.length:=by rw [List.length_map]
 refine Comp.body (T:=tab) (res:=[.tmp 8]) za [] Tryz.func91 rfl (by kernel_rfl) Tryz.ntmps91 rfl (by simp only [List.length_cons,List.length_nil];decide) (by simp only [lowL,AV.low,rsL,staL,sgL,zZ];rfl) ?_;conv=>whnf
 repeat' ((refine zb.ret hra' ?_);conv=>whnf)
 refine Walk.loopK za [] [(1,_),(4,_),(6,_),(7,_),(9,_)] ⟨rfl,rfl,rfl,rfl,rfl,trivial⟩ (fun i : Nat=>i <= l.length /\ ∀ j,j < i -> 0 <= tbN T (l.getD j default)) (fun i=>[(10,.int .i64 (mnK (tbN T) (l.take i))),(11,natA i)]) (fun _=>[]) (fun i=>l.length - i) 0 ⟨Nat.zero_le _,fun j hj=>by omega⟩ rfl ⟨rfl,rfl,trivial⟩ ?_
 rintro i ⟨hi,hI⟩
 have hnx : i < l.length -> mnK (tbN T) (l.take (i + 1)) = if i = 0 \/ tbN T (l.getD i default) < mnK (tbN T) (l.take i) then tbN T (l.getD i default) else mnK (tbN T) (l.take i):=fun h=>by
  rw [zD h,mnK_next]
  have : (l.take i).isEmpty = true ↔ i = 0:=by
   rw [List.isEmpty_iff,List.take_eq_nil_iff]
   exact ⟨fun h=>h.elim id (fun h=>absurd h hne),.inl⟩
  simp only [this]
 have hend : i = l.length -> mnK (tbN T) (l.take i) = minL (tbN T) l:=fun h=>by rw [h,List.take_length,mnK,if_neg (by rw [hie];simp)]
 generalize mnK (tbN T) (l.take i) = v at hnx hend
 conv=>whnf
 by_cases hlt : i < l.length
 ·have hnum:=rNumber_c s nt T hT _ (hvy _ (zk (d:=default) hlt))
  have hrg:=(hT.at (hvy _ (zk (d:=default) hlt))).2.2.2
  have hnx:=hnx hlt
  by_cases hneg : tbN T (l.getD i default) < 0
  ·have hgl : jQ s (tbN T) x t l = -1:=by
    have h1:=hmm.2 _ (zk (d:=default) hlt)
    obtain ⟨y,hy,e⟩:=hmm.1
    have h2:=(hT.at (hvy _ hy)).2.2.2.1
    have h3 : minL (tbN T) l = -1:=by omega
    unfold jQ;rw [h3];exact if_neg (fun h=>h.1 rfl)
   rw [hgl]
   repeat' first|((with_reducible first|refine XBr.y fun h=>?_|refine XBr.n fun h=>?_|refine XBr.dec (fun h=>?_) fun h=>?_) <;> conv=>whnf)|((first|refine XIx.a ?_|refine zb.ret hnum ?_);conv=>whnf)|fail
   exact XOut.int rfl
  ·have hI' : ∀ j,j < i + 1 -> 0 <= tbN T (l.getD j default):=fun j hj=>by
    by_cases e : j = i
    ·subst e;omega
    ·exact hI j (by omega)
   by_cases hc : i = 0 \/ tbN T (l.getD i default) < v
   ·rw [if_pos hc] at hnx
    repeat' first|((with_reducible first|apply XBr.tt|apply XBr.ff|refine XBr.y fun h=>?_|refine XBr.n fun h=>?_|refine XBr.dec (fun h=>?_) fun h=>?_|refine XBr.y1 fun h=>?_|refine XBr.n1 fun h=>?_|refine XBr.beq (fun h=>?_) fun h=>?_|refine XInt.a ?_) <;> conv=>whnf)|((first|refine XIx.a ?_|refine zb.ret hnum ?_);conv=>whnf)|fail
    all_goals first
     | exact zj.go (i + 1) ⟨by omega,hI'⟩ (by omega) rfl ⟨rfl,rfl,rfl,rfl,rfl,(by rw [hnx];rfl),rfl,trivial⟩
     | (exfalso;omega)
   ·rw [if_neg hc] at hnx
    repeat' first|((with_reducible first|apply XBr.ff|refine XBr.y fun h=>?_|refine XBr.n fun h=>?_|refine XBr.dec (fun h=>?_) fun h=>?_|refine XBr.y1 fun h=>?_|refine XBr.n1 fun h=>?_|refine XBr.beq (fun h=>?_) fun h=>?_|refine XInt.a ?_) <;> conv=>whnf)|((first|refine XIx.a ?_|refine zb.ret hnum ?_);conv=>whnf)|fail
    all_goals first
     | exact zj.go (i + 1) ⟨by omega,hI'⟩ (by omega) rfl ⟨rfl,rfl,rfl,rfl,rfl,(by rw [hnx];rfl),rfl,trivial⟩
     | (exfalso;omega)
 obtain rfl : i = l.length:=by omega
 have hv:=hend rfl
 have hv0 : 0 <= v:=by
  obtain ⟨y,hy,e⟩:=hmm.1
  obtain ⟨j,hj,rfl⟩:=List.mem_iff_getElem.1 hy
  have:=hI j hj
  rw [List.getD_eq_getElem?_getD,List.getElem?_eq_getElem hj] at this
  rw [hv,e];exact this
 have hv1 : v <= 60:=by
  obtain ⟨y,hy,e⟩:=hmm.1
  have h2:=(hT.at (hvy _ hy)).2.2.2.2
  omega
 have hgl : jQ s (tbN T) x t l = if (x.p : Int) = s.bed /\ t.1 = s.bed then v + 1 else v:=by
  unfold jQ;rw [<- hv]
  by_cases c : (x.p : Int) = s.bed /\ t.1 = s.bed
  ·rw [if_pos c];exact if_pos ⟨by omega,c⟩
  ·rw [if_neg c];exact if_neg (fun h=>c h.2)
 rw [hgl]
 clear hgl hmm hend hnx hI hv
 by_cases c2 : (x.p : Int) = s.bed
 ·by_cases c3 : t.1 = s.bed
  ·rw [if_pos ⟨c2,c3⟩]
   repeat' ((with_reducible first|apply XBr.tt|refine XBr.y fun h=>?_|refine XBr.n fun h=>?_|refine XBr.dec (fun h=>?_) fun h=>?_|refine XBr.y1 fun h=>?_|refine XBr.n1 fun h=>?_|refine XBr.beq (fun h=>?_) fun h=>?_|refine XInt.a ?_) <;> conv=>whnf)
   exact XOut.int rfl
  ·rw [if_neg (fun h=>c3 h.2)]
   repeat' ((with_reducible first|apply XBr.tt|refine XBr.y fun h=>?_|refine XBr.n fun h=>?_|refine XBr.dec (fun h=>?_) fun h=>?_|refine XBr.y1 fun h=>?_|refine XBr.n1 fun h=>?_|refine XBr.beq (fun h=>?_) fun h=>?_) <;> conv=>whnf)
   exact XOut.int rfl
 ·rw [if_neg (fun h=>c2 h.1)]
  repeat' ((with_reducible first|apply XBr.tt|apply XBr.ff|refine XBr.y fun h=>?_|refine XBr.n fun h=>?_|refine XBr.dec (fun h=>?_) fun h=>?_|refine XBr.y1 fun h=>?_|refine XBr.n1 fun h=>?_|refine XBr.beq (fun h=>?_) fun h=>?_) <;> conv=>whnf)
  exact XOut.int rfl
theorem zco (s : Sn) (hb : SnB s) (ok : SnOk s) (nt : Bool) (T : List Rs) (hT : TbOk s T) (x : Sta) (hx : StOk s x) (hxl : x.l <= allN s) :
  Comp Tryz.prog 254 [rsA s,.sl nt (T.map rsT),staA x] (.int .i64 (zM s (tbN T) x)):=by
 have p1:=ok.p1;have p2:=ok.p2
 have hsf:=qk s hb ok x hx.p hxl
 have hst:=fD s hb ok x hx hxl
 have hho : ye s x = if (x.p : Int) = s.home then 0 else -1:=rfl
 cases h1 : zW s x with
 | false =>
   rw [h1] at hsf
   rw [show zM s (tbN T) x = -1 by unfold zM;rw [if_neg (by rw [h1];simp)]]
   refine Comp.body (T:=tab) (res:=[.tmp 6]) za [] Tryz.func254 rfl (by kernel_rfl) Tryz.ntmps254 rfl (by simp only [List.length_cons,List.length_nil];decide) (by simp only [lowL,AV.low,rsL,staL,zZ];rfl) ?_;conv=>whnf
   repeat' first|((with_reducible apply XBr.ff);conv=>whnf) | with_reducible apply XBr.not|((refine zb.ret hsf ?_);conv=>whnf)|fail
   exact XOut.int rfl
 | true =>
   rw [h1] at hsf
   rw [show zM s (tbN T) x = (zT s x).foldl (fun n t=>max n (zP s (tbN T) x t)) (ye s x) by unfold zM;rw [if_pos h1]]
   have hmem:=fun t (h : t ∈ zT s x)=>h
   have hsl : (zT s x).length <= 55:=by
    have hwl : (waysL s x.p).length <= 55:=by
     have h:=yo s x.p s.places.toNat
     have w1:=ok.w1
     have h2 : s.places.toNat * (1 + s.ways.length) <= 5 * 11:=Nat.mul_le_mul (by omega) (by omega)
     show (yc s x.p s.places.toNat).length <= 55
     omega
    exact Nat.le_trans (List.length_filter_le _ _) hwl
   have hg : ∀ t ∈ zT s x,Comp Tryz.prog 91 [rsA s,.sl nt (T.map rsT),staA x,sgA t] (.int .i64 (zP s (tbN T) x t)):=fun t ht=>by
    have hne : (!(zm s x t).isEmpty) = true:=(List.mem_filter.1 ht).2
    cases ha : zm s x t with
    | nil=>rw [ha] at hne;cases hne
    | cons y0 l0=>exact zcl s hb ok nt T hT x hx hxl t y0 l0 ha
   generalize zT s x = W at hst hmem hsl hg
   have e1 : ((W.map sgA).length : Int) = W.length:=by rw [List.length_map]
   by_cases hph : (x.p : Int) = s.home
   ·rw [hho,if_pos hph]
    refine Comp.body (T:=tab) (res:=[.tmp 6]) za [] Tryz.func254 rfl (by kernel_rfl) Tryz.ntmps254 rfl (by simp only [List.length_cons,List.length_nil];decide) (by simp only [lowL,AV.low,rsL,staL,zZ];rfl) ?_;conv=>whnf
    repeat' first|((with_reducible first|apply XBr.tt|refine XBr.y1 fun h=>?_|refine XBr.n1 fun h=>?_|refine XBr.beq (fun h=>?_) fun h=>?_) <;> conv=>whnf) | with_reducible apply XBr.not|((first|refine zb.ret hsf ?_|refine zb.ret hst ?_);conv=>whnf)|fail
    refine Walk.loopK za [] [(1,_),(3,_),(5,_),(8,_)] ⟨rfl,rfl,rfl,rfl,trivial⟩ (fun i : Nat=>i <= W.length) (fun i=>[(7,.int .i64 ((W.take i).foldl (fun n t=>max n (zP s (tbN T) x t)) 0)),(9,natA i)]) (fun _=>[]) (fun i=>W.length - i) 0 (Nat.zero_le _) rfl ⟨rfl,rfl,trivial⟩ ?_
    intro i hi
    have hnx : i < W.length -> (W.take (i + 1)).foldl (fun n t=>max n (zP s (tbN T) x t)) 0 = max ((W.take i).foldl (fun n t=>max n (zP s (tbN T) x t)) 0) (zP s (tbN T) x (W.getD i default)):=fun h=>by rw [zD h,List.foldl_append];rfl
    have hend : i = W.length -> (W.take i).foldl (fun n t=>max n (zP s (tbN T) x t)) 0 = W.foldl (fun n t=>max n (zP s (tbN T) x t)) 0:=fun h=>by rw [h,List.take_length]
    generalize (W.take i).foldl (fun n t=>max n (zP s (tbN T) x t)) 0 = v at hnx hend
    conv=>whnf
    by_cases hlt : i < W.length
    ·have hgi:=hg _ (zk (d:=default) hlt)
     repeat' first|((with_reducible first|refine XBr.y fun h=>?_|refine XBr.n fun h=>?_|refine XBr.dec (fun h=>?_) fun h=>?_|refine XInt.a ?_|apply Chk.go|apply ChkA.go|apply ChkF.go|apply ChkB.go|apply zq.mk) <;> conv=>whnf)|(refine XIx.a ?_;conv=>whnf)|(with_reducible first|apply XAnd.mk|exact trivial)|(exact zg.mk rfl rfl)|(apply Walk.drawN (id:=10) za zd [] [] (hsU _) [_,_,_,_,_,_,_,_,_,_,_] (by kernel_rfl) rfl)|((refine zb.ret hgi ?_);conv=>whnf)|fail
     exact zj.go (i + 1) (by omega) (by omega) rfl ⟨rfl,rfl,rfl,rfl,(by rw [hnx hlt];rfl),rfl,trivial⟩
    obtain rfl : i = W.length:=by omega
    rw [<- hend rfl]
    repeat' ((with_reducible first|refine XBr.y fun h=>?_|refine XBr.n fun h=>?_|refine XBr.dec (fun h=>?_) fun h=>?_) <;> conv=>whnf)
    exact XOut.int rfl
   ·rw [hho,if_neg hph]
    refine Comp.body (T:=tab) (res:=[.tmp 6]) za [] Tryz.func254 rfl (by kernel_rfl) Tryz.ntmps254 rfl (by simp only [List.length_cons,List.length_nil];decide) (by simp only [lowL,AV.low,rsL,staL,zZ];rfl) ?_;conv=>whnf
    repeat' first|((with_reducible first|apply XBr.tt|refine XBr.y1 fun h=>?_|refine XBr.n1 fun h=>?_|refine XBr.beq (fun h=>?_) fun h=>?_) <;> conv=>whnf) | with_reducible apply XBr.not|((first|refine zb.ret hsf ?_|refine zb.ret hst ?_);conv=>whnf)|fail
    refine Walk.loopK za [] [(1,_),(3,_),(5,_),(8,_)] ⟨rfl,rfl,rfl,rfl,trivial⟩ (fun i : Nat=>i <= W.length) (fun i=>[(7,.int .i64 ((W.take i).foldl (fun n t=>max n (zP s (tbN T) x t)) (-1))),(9,natA i)]) (fun _=>[]) (fun i=>W.length - i) 0 (Nat.zero_le _) rfl ⟨rfl,rfl,trivial⟩ ?_
    intro i hi
    have hnx : i < W.length -> (W.take (i + 1)).foldl (fun n t=>max n (zP s (tbN T) x t)) (-1) = max ((W.take i).foldl (fun n t=>max n (zP s (tbN T) x t)) (-1)) (zP s (tbN T) x (W.getD i default)):=fun h=>by rw [zD h,List.foldl_append];rfl
    have hend : i = W.length -> (W.take i).foldl (fun n t=>max n (zP s (tbN T) x t)) (-1) = W.foldl (fun n t=>max n (zP s (tbN T) x t)) (-1):=fun h=>by rw [h,List.take_length]
    generalize (W.take i).foldl (fun n t=>max n (zP s (tbN T) x t)) (-1) = v at hnx hend
    conv=>whnf
    by_cases hlt : i < W.length
    ·have hgi:=hg _ (zk (d:=default) hlt)
     repeat' first|((with_reducible first|refine XBr.y fun h=>?_|refine XBr.n fun h=>?_|refine XBr.dec (fun h=>?_) fun h=>?_|refine XInt.a ?_|apply Chk.go|apply ChkA.go|apply ChkF.go|apply ChkB.go|apply zq.mk) <;> conv=>whnf)|(refine XIx.a ?_;conv=>whnf)|(with_reducible first|apply XAnd.mk|exact trivial)|(exact zg.mk rfl rfl)|(apply Walk.drawN (id:=10) za zd [] [] (hsU _) [_,_,_,_,_,_,_,_,_,_,_] (by kernel_rfl) rfl)|((refine zb.ret hgi ?_);conv=>whnf)|fail
     exact zj.go (i + 1) (by omega) (by omega) rfl ⟨rfl,rfl,rfl,rfl,(by rw [hnx hlt];rfl),rfl,trivial⟩
    obtain rfl : i = W.length:=by omega
    rw [<- hend rfl]
    repeat' ((with_reducible first|refine XBr.y fun h=>?_|refine XBr.n fun h=>?_|refine XBr.dec (fun h=>?_) fun h=>?_) <;> conv=>whnf)
    exact XOut.int rfl
end GA
end
section
namespace GA
open Go Go.RowKit Go.Proofs
structure UpTo (s : Sn) (r : Sta -> Prop) (p m l : Nat) (b : Bool) : Prop where
 iff : b = true ↔ ∀ y,vld s y -> y.p < p \/ (y.p = p /\ (y.m < m \/ (y.m = m /\ y.l < l))) -> r y
theorem UpTo.zero (s : Sn) (r : Sta -> Prop) : UpTo s r 0 0 0 true:=⟨⟨fun _ y _ h=>by omega,fun _=>rfl⟩⟩
theorem UpTo.next {s : Sn} {r : Sta -> Prop} {p m l : Nat} {b : Bool} (h : UpTo s r p m l b) (hv : vld s ⟨p,m,l⟩) (b' : Bool) (hb : b' = true ↔ r ⟨p,m,l⟩) : UpTo s r p m (l + 1) (b && b'):=by
 refine ⟨?_⟩
 rw [Bool.and_eq_true,h.iff,hb]
 refine ⟨fun ⟨h1,h2⟩ y hy hlt=>?_,fun h'=>⟨fun y hy hlt=>h' y hy (by omega),h' _ hv (.inr ⟨rfl,.inr ⟨rfl,by show l < l + 1;omega⟩⟩)⟩⟩
 by_cases e : y = ⟨p,m,l⟩
 ·subst e;exact h2
 ·refine h1 y hy ?_
  have : ¬ (y.p = p /\ y.m = m /\ y.l = l):=fun ⟨a,b,c⟩=>e (by cases y;simp_all)
  omega
theorem UpTo.row {s : Sn} {r : Sta -> Prop} {p m : Nat} {b : Bool} (h : UpTo s r p m (allN s + 1) b) : UpTo s r p (m + 1) 0 b:=by
 refine ⟨h.iff.trans ⟨fun h' y hy hlt=>h' y hy ?_,fun h' y hy hlt=>h' y hy ?_⟩⟩
 ·have:=hy.2.2;omega
 ·have:=hy.2.2;omega
theorem UpTo.place {s : Sn} {r : Sta -> Prop} {p m : Nat} {b : Bool} (hm : (m : Int) = s.last + 1) (h : UpTo s r p m 0 b) : UpTo s r (p + 1) 0 0 b:=by
 refine ⟨h.iff.trans ⟨fun h' y hy hlt=>h' y hy ?_,fun h' y hy hlt=>h' y hy ?_⟩⟩
 ·have:=hy.2.1;omega
 ·have:=hy.2.1;omega
theorem UpTo.all {s : Sn} {r : Sta -> Prop} {p : Nat} {b : Bool} (hp : (p : Int) = s.places) (h : UpTo s r p 0 0 b) : b = true ↔ ∀ y,vld s y -> r y:=by
 refine h.iff.trans ⟨fun h' y hy=>h' y hy (.inl ?_),fun h' y hy _=>h' y hy⟩
 have:=hy.1;omega
theorem rShows_c (s : Sn) (hb : SnB s) (ok : SnOk s) (nt : Bool) (T : List Rs) (hT : TbOk s T) (A B : Bool) (hA : A = true ↔ ∀ y,vld s y -> tbN T y <= zM s (tbN T) y) (hB : B = true ↔ ∀ y,vld s y -> tbN T y ≥ zM s (tbN T) y) :
  Comp Tryz.prog 96 [rsA s,.sl nt (T.map rsT)] (.tup [.bool A,.bool B]):=by
 have p1:=ok.p1;have p2:=ok.p2;have l1:=ok.l1;have l2:=ok.l2
 have hal:=ym ok
 have e1 : ((T.map rsT).length : Int) = T.length:=by rw [List.length_map]
 have ta:=hT.a
 refine Comp.body (T:=tab) (res:=[.tmp 4,.tmp 5]) za [] Tryz.func96 rfl (by kernel_rfl) Tryz.ntmps96 rfl (by simp only [List.length_cons,List.length_nil];decide) (by simp only [lowL,AV.low,rsL,zZ];rfl) ?_;conv=>whnf
 skip
 refine Walk.loopK za [] [(1,_),(2,_)] ⟨rfl,rfl,trivial⟩ (fun g : Nat × Bool × Bool=>g.1 <= T.length /\ UpTo s (fun y=>tbN T y <= zM s (tbN T) y) g.1 0 0 g.2.1 /\ UpTo s (fun y=>tbN T y ≥ zM s (tbN T) y) g.1 0 0 g.2.2) (fun g=>[(6,.bool g.2.1),(7,.bool g.2.2),(8,natA g.1)]) (fun _=>[]) (fun g=>T.length - g.1) (0,true,true) ⟨Nat.zero_le _,.zero _ _,.zero _ _⟩ rfl ⟨rfl,rfl,rfl,trivial⟩ ?_
 rintro ⟨p,a,b⟩ ⟨hp,hI,hJ⟩
 dsimp only at hp hI hJ ⊢
 conv=>whnf
 by_cases hlt : p < T.length
 ·have tb:=hT.b p hlt
  have e2 : (((T.getD p default).2.map rwA).length : Int) = (T.getD p default).2.length:=by rw [List.length_map]
  repeat' ((with_reducible first|refine XBr.y fun h=>?_|refine XBr.n fun h=>?_|refine XBr.dec (fun h=>?_) fun h=>?_) <;> conv=>whnf)
  refine Walk.loopK za [] [(1,_),(2,_),(8,_)] ⟨rfl,rfl,rfl,trivial⟩ (fun g : Nat × Bool × Bool=>g.1 <= (T.getD p default).2.length /\ UpTo s (fun y=>tbN T y <= zM s (tbN T) y) p g.1 0 g.2.1 /\ UpTo s (fun y=>tbN T y ≥ zM s (tbN T) y) p g.1 0 g.2.2) (fun g=>[(6,.bool g.2.1),(7,.bool g.2.2),(9,natA g.1)]) (fun _=>[]) (fun g=>(T.getD p default).2.length - g.1) (0,a,b) ⟨Nat.zero_le _,hI,hJ⟩ rfl ⟨rfl,rfl,rfl,trivial⟩ ?_
  rintro ⟨m,a,b⟩ ⟨hm,hI,hJ⟩
  dsimp only at hm hI hJ ⊢
  conv=>whnf
  by_cases hlt2 : m < (T.getD p default).2.length
  ·have tc:=hT.c p m hlt hlt2
   have e3 : ((ints ((T.getD p default).2.getD m default).2).length : Int) = ((T.getD p default).2.getD m default).2.length:=by rw [zK]
   repeat' first|((with_reducible first|refine XBr.y fun h=>?_|refine XBr.n fun h=>?_|refine XBr.dec (fun h=>?_) fun h=>?_) <;> conv=>whnf)|(refine XIx.a ?_;conv=>whnf)|fail
   refine Walk.loopK za [] [(1,_),(2,_),(8,_),(9,_)] ⟨rfl,rfl,rfl,rfl,trivial⟩ (fun g : Nat × Bool × Bool=>g.1 <= allN s + 1 /\ UpTo s (fun y=>tbN T y <= zM s (tbN T) y) p m g.1 g.2.1 /\ UpTo s (fun y=>tbN T y ≥ zM s (tbN T) y) p m g.1 g.2.2) (fun g=>[(6,.bool g.2.1),(7,.bool g.2.2),(10,natA g.1)]) (fun _=>[]) (fun g=>allN s + 1 - g.1) (0,a,b) ⟨Nat.zero_le _,hI,hJ⟩ rfl ⟨rfl,rfl,rfl,trivial⟩ ?_
   rintro ⟨l,a,b⟩ ⟨hl,hI,hJ⟩
   dsimp only at hl hI hJ ⊢
   conv=>whnf
   by_cases hlt3 : l < allN s + 1
   ·have hv : vld s ⟨p,m,l⟩:=⟨by show (p : Int) < s.places;omega,by show (m : Int) <= s.last;omega,by show l <= allN s;omega⟩
    have hbo:=zco s hb ok nt T hT ⟨p,m,l⟩ ⟨by show (p : Int) < s.places;omega,by show (m : Int) <= s.last;omega,by show l <= _;omega⟩ hv.2.2
    have hst : staA ⟨p,m,l⟩ = .agg [natA p,natA m,natA l]:=rfl
    have htn : tbN T ⟨p,m,l⟩ = (((T.getD p default).2.getD m default).2).getD l default:=rfl
    have hI':=hI.next hv (decide (tbN T ⟨p,m,l⟩ <= zM s (tbN T) ⟨p,m,l⟩)) (by rw [decide_eq_true_eq])
    have hJ':=hJ.next hv (decide (tbN T ⟨p,m,l⟩ ≥ zM s (tbN T) ⟨p,m,l⟩)) (by rw [decide_eq_true_eq])
    rw [hst] at hbo
    rw [htn] at hI' hJ'
    generalize zM s (tbN T) ⟨p,m,l⟩ = bz at hbo hI' hJ'
    cases a <;> cases b
    all_goals
     repeat' first|((with_reducible first|refine XBr.y fun h=>?_|refine XBr.n fun h=>?_|refine XBr.dec (fun h=>?_) fun h=>?_) <;> conv=>whnf)|((first|refine XIx.a ?_|refine zb.ret hbo ?_);conv=>whnf)|fail
     refine Walk.norm za [] [(1,_),(2,_),(6,_),(7,_),(8,_),(9,_),(10,_),(11,_)] ⟨rfl,rfl,rfl,rfl,rfl,rfl,rfl,rfl,trivial⟩ ?_
     conv=>whnf
     repeat' first|((with_reducible first|apply XBr.tt|apply XBr.ff);conv=>whnf)|(refine XIx.a ?_;conv=>whnf)|fail
     refine Walk.norm za [] [(1,_),(2,_),(6,_),(7,_),(8,_),(9,_),(10,_),(11,_)] ⟨rfl,rfl,rfl,rfl,rfl,rfl,rfl,rfl,trivial⟩ ?_
     conv=>whnf
     repeat' first|((with_reducible first|apply XBr.tt|apply XBr.ff|refine XInt.a ?_);conv=>whnf)|(refine XIx.a ?_;conv=>whnf)|fail
     exact zj.go (l + 1,_,_) ⟨by dsimp only;omega,hI',hJ'⟩ (by dsimp only;omega) rfl ⟨rfl,rfl,rfl,rfl,rfl,rfl,rfl,trivial⟩
   obtain rfl : l = allN s + 1:=by omega
   repeat' first|((with_reducible first|refine XBr.y fun h=>?_|refine XBr.n fun h=>?_|refine XBr.dec (fun h=>?_) fun h=>?_|refine XInt.a ?_) <;> conv=>whnf)|(refine XIx.a ?_;conv=>whnf)|fail
   exact zj.go (m + 1,a,b) ⟨by dsimp only;omega,hI.row,hJ.row⟩ (by dsimp only;omega) rfl ⟨rfl,rfl,rfl,rfl,rfl,rfl,trivial⟩
  obtain rfl : m = (T.getD p default).2.length:=by omega
  repeat' first|((with_reducible first|refine XBr.y fun h=>?_|refine XBr.n fun h=>?_|refine XBr.dec (fun h=>?_) fun h=>?_|refine XInt.a ?_) <;> conv=>whnf)|(refine XIx.a ?_;conv=>whnf)|fail
  exact zj.go (p + 1,a,b) ⟨by dsimp only;omega,hI.place tb,hJ.place tb⟩ (by dsimp only;omega) rfl ⟨rfl,rfl,rfl,rfl,rfl,trivial⟩
 obtain rfl : p = T.length:=by omega
 have h1 : a = A:=Bool.eq_iff_iff.2 ((hI.all ta).trans hA.symm)
 have h2 : b = B:=Bool.eq_iff_iff.2 ((hJ.all ta).trans hB.symm)
 subst h1;subst h2
 repeat' ((with_reducible first|refine XBr.y fun h=>?_|refine XBr.n fun h=>?_|refine XBr.dec (fun h=>?_) fun h=>?_) <;> conv=>whnf)
 exact ⟨.low rfl⟩
theorem qW {α : Type} {p : α -> Bool} {l : List α} {d : α} {i : Nat} (hi : i < l.length) (h : p (l.getD i d) = false) : l.all p = false:=by
 rw [List.all_eq_false]
 exact ⟨_,zk hi,by rw [h];simp⟩
theorem zaY (s : Sn) (hb : SnB s) (nt : Bool) (T : List Rs) (hT : TbB T) : Comp Tryz.prog 93 [rsA s,.sl nt (T.map rsT)] (.int .i64 (tabE s T)):=by
 have hck:=jJ s hb
 have e1 : ((T.map rsT).length : Int) = T.length:=by rw [List.length_map]
 have t1:=hT.a
 by_cases h0 : snE s = 0
 rotate_left
 ·have he : tabE s T = snE s:=by unfold tabE;rw [if_pos h0]
  rw [he]
  generalize snE s = e at h0 hck
  refine Comp.body (T:=tab) (res:=[.tmp 4]) za [] Tryz.func93 rfl (by kernel_rfl) Tryz.ntmps93 rfl (by simp only [List.length_cons,List.length_nil];decide) (by simp only [lowL,AV.low,rsL,zZ];rfl) ?_;conv=>whnf
  repeat' first|((with_reducible first|refine XBr.y2 fun h=>?_|refine XBr.n2 fun h=>?_|refine XBr.bne (fun h=>?_) fun h=>?_) <;> conv=>whnf)|((refine zb.ret hck ?_);conv=>whnf)|fail
  exact XOut.int rfl
 have ok:=zO.1 h0
 have l2:=ok.l2;have q1:=ok.p1;have q2:=ok.p2;have l1:=ok.l1
 have hal:=ym ok
 have ha:=qI s (by have:=ok.t2;omega)
 have he : tabE s T = if tabM s T = false then 2 else if tabV T = false then 3 else 0:=by unfold tabE;rw [if_neg (fun e=>e h0)]
 rw [he]
 rw [h0] at hck
 have hM : tabM s T = (decide ((T.length : Int) = s.places) && T.all fun l=>decide ((l.2.length : Int) = s.last + 1) && l.2.all fun k=>decide ((k.2.length : Int) = allN s + 1)):=rfl
 have hV : tabV T = T.all fun l=>l.2.all fun k=>k.2.all fun n=>inZ n (-1) 60:=rfl
 by_cases hq : (T.length : Int) = s.places
 rotate_left
 ·rw [hM,decide_eq_false hq,Bool.false_and,if_pos rfl]
  refine Comp.body (T:=tab) (res:=[.tmp 4]) za [] Tryz.func93 rfl (by kernel_rfl) Tryz.ntmps93 rfl (by simp only [List.length_cons,List.length_nil];decide) (by simp only [lowL,AV.low,rsL,zZ];rfl) ?_;conv=>whnf
  repeat' first|((with_reducible first|refine XBr.y2 fun h=>?_|refine XBr.n2 fun h=>?_|refine XBr.bne (fun h=>?_) fun h=>?_) <;> conv=>whnf)|((refine zb.ret hck ?_);conv=>whnf)|fail
  exact XOut.int rfl
 rw [decide_eq_true hq,Bool.true_and] at hM
 refine Comp.body (T:=tab) (res:=[.tmp 4]) za [] Tryz.func93 rfl (by kernel_rfl) Tryz.ntmps93 rfl (by simp only [List.length_cons,List.length_nil];decide) (by simp only [lowL,AV.low,rsL,zZ];rfl) ?_;conv=>whnf
 repeat' first|((with_reducible first|refine XBr.y2 fun h=>?_|refine XBr.n2 fun h=>?_|refine XBr.bne (fun h=>?_) fun h=>?_) <;> conv=>whnf)|((refine zb.ret hck ?_);conv=>whnf)|fail
 refine Walk.loopK za [] [(1,_),(2,_)] ⟨rfl,rfl,trivial⟩ (fun p : Nat=>p <= T.length /\ ∀ q,q < p -> (decide (((T.getD q default).2.length : Int) = s.last + 1) && (T.getD q default).2.all fun k=>decide ((k.2.length : Int) = allN s + 1)) = true) (fun p=>[(6,natA p)]) (fun _=>[]) (fun p=>T.length - p) 0 ⟨Nat.zero_le _,fun q hq=>by omega⟩ rfl ⟨rfl,trivial⟩ ?_
 rintro p ⟨hp,hI⟩
 conv=>whnf
 by_cases hlt : p < T.length
 ·have hr1:=hT.b _ (zk (d:=default) hlt)
  have hr2:=hT.c _ (zk (d:=default) hlt)
  have e2 : (((T.getD p default).2.map rwA).length : Int) = (T.getD p default).2.length:=by rw [List.length_map]
  by_cases hq2 : ((T.getD p default).2.length : Int) = s.last + 1
  ·skip
   repeat' first|((with_reducible first|refine XBr.y fun h=>?_|refine XBr.n fun h=>?_|refine XBr.dec (fun h=>?_) fun h=>?_|refine XBr.y2 fun h=>?_|refine XBr.n2 fun h=>?_|refine XBr.bne (fun h=>?_) fun h=>?_|refine XInt.a ?_|apply Chk.go|apply ChkA.go|apply ChkF.go|apply ChkB.go|apply zq.mk) <;> conv=>whnf)|(refine XIx.a ?_;conv=>whnf)|(with_reducible first|apply XAnd.mk|exact trivial)|(exact zg.mk rfl rfl)|(apply Walk.drawN (id:=9) za zd [] [] (hsU _) [_,_,_,_,_,_,_,_,_] (by kernel_rfl) rfl)|fail
   refine Walk.loopK za [] [(1,_),(2,_),(6,_)] ⟨rfl,rfl,rfl,trivial⟩ (fun m : Nat=>m <= (T.getD p default).2.length /\ ∀ q,q < m -> ((((T.getD p default).2.getD q default).2.length : Nat) : Int) = allN s + 1) (fun m=>[(7,natA m)]) (fun _=>[]) (fun m=>(T.getD p default).2.length - m) 0 ⟨Nat.zero_le _,fun q hq=>by omega⟩ rfl ⟨rfl,trivial⟩ ?_
   rintro m ⟨hm,hJ⟩
   conv=>whnf
   by_cases hlt2 : m < (T.getD p default).2.length
   ·have hr3:=hr2 _ (zk (d:=default) hlt2)
    have e3 : ((ints ((T.getD p default).2.getD m default).2).length : Int) = ((T.getD p default).2.getD m default).2.length:=by rw [zK]
    by_cases hq3 : ((((T.getD p default).2.getD m default).2.length : Nat) : Int) = allN s + 1
    ·skip
     repeat' first|((with_reducible first|refine XBr.y fun h=>?_|refine XBr.n fun h=>?_|refine XBr.dec (fun h=>?_) fun h=>?_|refine XBr.y2 fun h=>?_|refine XBr.n2 fun h=>?_|refine XBr.bne (fun h=>?_) fun h=>?_|refine XInt.a ?_|apply Chk.go|apply ChkA.go|apply ChkF.go|apply ChkB.go|apply zq.mk) <;> conv=>whnf)|(refine XIx.a ?_;conv=>whnf)|(with_reducible first|apply XAnd.mk|exact trivial)|(exact zg.mk rfl rfl)|(apply Walk.drawN (id:=14) za zd [] [] (hsU _) [_,_,_,_,_,_,_,_,_,_,_,_] (by kernel_rfl) rfl)|((refine zb.ret ha ?_);conv=>whnf)|fail
     refine zj.go (m + 1) ⟨by omega,fun q hq=>?_⟩ (by omega) rfl ⟨rfl,rfl,rfl,rfl,trivial⟩
     by_cases e : q = m
     ·subst e;exact hq3
     ·exact hJ q (by omega)
    ·have hf : tabM s T = false:=by
      rw [hM]
      refine qW (d:=default) hlt ?_
      rw [decide_eq_true hq2,Bool.true_and]
      exact qW (d:=default) hlt2 (decide_eq_false hq3)
     rw [if_pos hf]
     repeat' first|((with_reducible first|refine XBr.y fun h=>?_|refine XBr.n fun h=>?_|refine XBr.dec (fun h=>?_) fun h=>?_|refine XBr.y2 fun h=>?_|refine XBr.n2 fun h=>?_|refine XBr.bne (fun h=>?_) fun h=>?_|refine XInt.a ?_|apply Chk.go|apply ChkA.go|apply ChkF.go|apply ChkB.go|apply zq.mk) <;> conv=>whnf)|(refine XIx.a ?_;conv=>whnf)|(with_reducible first|apply XAnd.mk|exact trivial)|(exact zg.mk rfl rfl)|(apply Walk.drawN (id:=14) za zd [] [] (hsU _) [_,_,_,_,_,_,_,_,_,_,_,_] (by kernel_rfl) rfl)|((refine zb.ret ha ?_);conv=>whnf)|fail
     exact XOut.int rfl
   obtain rfl : m = (T.getD p default).2.length:=by omega
   repeat' first|((with_reducible first|refine XBr.y fun h=>?_|refine XBr.n fun h=>?_|refine XBr.dec (fun h=>?_) fun h=>?_|refine XInt.a ?_) <;> conv=>whnf)|(refine XIx.a ?_;conv=>whnf)|fail
   refine zj.go (p + 1) ⟨by omega,fun q hq=>?_⟩ (by omega) rfl ⟨rfl,rfl,rfl,trivial⟩
   by_cases e : q = p
   ·subst e
    rw [decide_eq_true hq2,Bool.true_and,yZ (d:=default)]
    exact fun i hi=>decide_eq_true (hJ i hi)
   ·exact hI q (by omega)
  ·have hf : tabM s T = false:=by
    rw [hM]
    refine qW (d:=default) hlt ?_
    rw [decide_eq_false hq2,Bool.false_and]
   rw [if_pos hf]
   repeat' first|((with_reducible first|refine XBr.y fun h=>?_|refine XBr.n fun h=>?_|refine XBr.dec (fun h=>?_) fun h=>?_|refine XBr.y2 fun h=>?_|refine XBr.n2 fun h=>?_|refine XBr.bne (fun h=>?_) fun h=>?_|refine XInt.a ?_|apply Chk.go|apply ChkA.go|apply ChkF.go|apply ChkB.go|apply zq.mk) <;> conv=>whnf)|(refine XIx.a ?_;conv=>whnf)|(with_reducible first|apply XAnd.mk|exact trivial)|(exact zg.mk rfl rfl)|(apply Walk.drawN (id:=9) za zd [] [] (hsU _) [_,_,_,_,_,_,_,_,_] (by kernel_rfl) rfl)|fail
   exact XOut.int rfl
 obtain rfl : p = T.length:=by omega
 have hMt : tabM s T = true:=by rw [hM,yZ (d:=default)];exact hI
 rw [if_neg (by rw [hMt];simp)]
 repeat' ((with_reducible first|refine XBr.y fun h=>?_|refine XBr.n fun h=>?_|refine XBr.dec (fun h=>?_) fun h=>?_) <;> conv=>whnf)
 refine Walk.loopK za [] [(1,_)] ⟨rfl,trivial⟩ (fun p : Nat=>p <= T.length /\ ∀ q,q < p -> ((T.getD q default).2.all fun k=>k.2.all fun n=>inZ n (-1) 60) = true) (fun p=>[(8,natA p)]) (fun _=>[]) (fun p=>T.length - p) 0 ⟨Nat.zero_le _,fun q hq=>by omega⟩ rfl ⟨rfl,trivial⟩ ?_
 rintro p ⟨hp,hI⟩
 conv=>whnf
 by_cases hlt : p < T.length
 ·have hr1:=hT.b _ (zk (d:=default) hlt)
  have hr2:=hT.c _ (zk (d:=default) hlt)
  have e2 : (((T.getD p default).2.map rwA).length : Int) = (T.getD p default).2.length:=by rw [List.length_map]
  repeat' ((with_reducible first|refine XBr.y fun h=>?_|refine XBr.n fun h=>?_|refine XBr.dec (fun h=>?_) fun h=>?_) <;> conv=>whnf)
  refine Walk.loopK za [] [(1,_),(8,_)] ⟨rfl,rfl,trivial⟩ (fun m : Nat=>m <= (T.getD p default).2.length /\ ∀ q,q < m -> (((T.getD p default).2.getD q default).2.all fun n=>inZ n (-1) 60) = true) (fun m=>[(9,natA m)]) (fun _=>[]) (fun m=>(T.getD p default).2.length - m) 0 ⟨Nat.zero_le _,fun q hq=>by omega⟩ rfl ⟨rfl,trivial⟩ ?_
  rintro m ⟨hm,hJ⟩
  conv=>whnf
  by_cases hlt2 : m < (T.getD p default).2.length
  ·have hr3:=hr2 _ (zk (d:=default) hlt2)
   have e3 : ((ints ((T.getD p default).2.getD m default).2).length : Int) = ((T.getD p default).2.getD m default).2.length:=by rw [zK]
   repeat' first|((with_reducible first|refine XBr.y fun h=>?_|refine XBr.n fun h=>?_|refine XBr.dec (fun h=>?_) fun h=>?_) <;> conv=>whnf)|(refine XIx.a ?_;conv=>whnf)|fail
   refine Walk.loopK za [] [(1,_),(8,_),(9,_)] ⟨rfl,rfl,rfl,trivial⟩ (fun l : Nat=>l <= ((T.getD p default).2.getD m default).2.length /\ ∀ q,q < l -> inZ (((T.getD p default).2.getD m default).2.getD q default) (-1) 60 = true) (fun l=>[(10,natA l)]) (fun _=>[]) (fun l=>((T.getD p default).2.getD m default).2.length - l) 0 ⟨Nat.zero_le _,fun q hq=>by omega⟩ rfl ⟨rfl,trivial⟩ ?_
   rintro l ⟨hl,hL⟩
   conv=>whnf
   by_cases hlt3 : l < ((T.getD p default).2.getD m default).2.length
   ·cases hz : inZ (((T.getD p default).2.getD m default).2.getD l default) (-1) 60 with
    | true =>
      repeat' first|((with_reducible first|apply XBr.tt|refine XBr.y fun h=>?_|refine XBr.n fun h=>?_|refine XBr.dec (fun h=>?_) fun h=>?_|refine XInt.a ?_) <;> conv=>whnf)|(refine XIx.a ?_;conv=>whnf) | with_reducible apply XBr.not|(((refine zb.ret (zX _ _ _) ?_);rw [hz]);conv=>whnf)|fail
      refine zj.go (l + 1) ⟨by omega,fun q hq=>?_⟩ (by omega) rfl ⟨rfl,rfl,rfl,rfl,trivial⟩
      by_cases e : q = l
      ·subst e;exact hz
      ·exact hL q (by omega)
    | false =>
      have hf : tabV T = false:=by
       rw [hV]
       refine qW (d:=default) hlt ?_
       refine qW (d:=default) hlt2 ?_
       exact qW (d:=default) hlt3 hz
      rw [if_pos hf]
      repeat' first|((with_reducible first|apply XBr.ff|refine XBr.y fun h=>?_|refine XBr.n fun h=>?_|refine XBr.dec (fun h=>?_) fun h=>?_) <;> conv=>whnf)|(refine XIx.a ?_;conv=>whnf) | with_reducible apply XBr.not|(((refine zb.ret (zX _ _ _) ?_);rw [hz]);conv=>whnf)|fail
      exact XOut.int rfl
   obtain rfl : l = ((T.getD p default).2.getD m default).2.length:=by omega
   repeat' first|((with_reducible first|refine XBr.y fun h=>?_|refine XBr.n fun h=>?_|refine XBr.dec (fun h=>?_) fun h=>?_|refine XInt.a ?_) <;> conv=>whnf)|(refine XIx.a ?_;conv=>whnf)|fail
   refine zj.go (m + 1) ⟨by omega,fun q hq=>?_⟩ (by omega) rfl ⟨rfl,rfl,rfl,trivial⟩
   by_cases e : q = m
   ·subst e;rw [yZ (d:=default)];exact hL
   ·exact hJ q (by omega)
  obtain rfl : m = (T.getD p default).2.length:=by omega
  repeat' first|((with_reducible first|refine XBr.y fun h=>?_|refine XBr.n fun h=>?_|refine XBr.dec (fun h=>?_) fun h=>?_|refine XInt.a ?_) <;> conv=>whnf)|(refine XIx.a ?_;conv=>whnf)|fail
  refine zj.go (p + 1) ⟨by omega,fun q hq=>?_⟩ (by omega) rfl ⟨rfl,rfl,trivial⟩
  by_cases e : q = p
  ·subst e;rw [yZ (d:=default)];exact hJ
  ·exact hI q (by omega)
 obtain rfl : p = T.length:=by omega
 have hVt : tabV T = true:=by rw [hV,yZ (d:=default)];exact hI
 rw [if_neg (by rw [hVt];simp)]
 repeat' ((with_reducible first|refine XBr.y fun h=>?_|refine XBr.n fun h=>?_|refine XBr.dec (fun h=>?_) fun h=>?_) <;> conv=>whnf)
 exact XOut.int rfl
end GA
end
section
namespace GA
open Go Go.RowKit Go.Proofs
def yG (l : Rs) : Rs:=(false,l.2.map ownR)
theorem own_tbN (T : List Rs) (y : Sta) : tbN (T.map yG) y = tbN T y:=by
 have h1 : ((T.map yG).getD y.p default).2 = ((T.getD y.p default).2).map ownR:=by
  rw [List.getD_eq_getElem?_getD,List.getD_eq_getElem?_getD,List.getElem?_map]
  cases T[y.p]? <;> rfl
 have h2 : ((((T.getD y.p default).2).map ownR).getD y.m default).2 = ((T.getD y.p default).2.getD y.m default).2:=by
  generalize (T.getD y.p default).2 = L
  rw [List.getD_eq_getElem?_getD,List.getD_eq_getElem?_getD,List.getElem?_map]
  cases L[y.m]? <;> rfl
 unfold tbN;rw [h1,h2]
theorem own_tabM (s : Sn) (T : List Rs) : tabM s (T.map yG) = tabM s T:=by
 unfold tabM
 rw [List.length_map,List.all_map]
 congr 1
 congr 1
 funext l
 show (decide (((l.2.map ownR).length : Int) = s.last + 1) && (l.2.map ownR).all fun k=>decide ((k.2.length : Int) = allN s + 1)) = _
 rw [List.length_map,List.all_map];rfl
theorem own_tabV (T : List Rs) : tabV (T.map yG) = tabV T:=by
 unfold tabV
 rw [List.all_map]
 congr 1
 funext l
 show ((l.2.map ownR).all fun k=>k.2.all fun n=>inZ n (-1) 60) = _
 rw [List.all_map];rfl
theorem SnEq.tabE {s u : Sn} (e : SnEq s u) (T : List Rs) : GA.tabE s T = GA.tabE u T:=by unfold GA.tabE tabM;rw [e.err,e.places,e.last,e.allN]
theorem own_tabE (s : Sn) (T : List Rs) : tabE s (T.map yG) = tabE s T:=by unfold tabE;rw [own_tabM,own_tabV]
theorem SnEq.vld {s u : Sn} (e : SnEq s u) (y : Sta) : GA.vld s y ↔ GA.vld u y:=by unfold GA.vld;rw [e.places,e.last,e.allN]
theorem ownT_B {T : List Rs} (h : TbB T) : TbB (T.map yG):=by
 refine ⟨by rw [List.length_map];exact h.a,fun l hl=>?_,fun l hl r hr=>?_⟩
 ·obtain ⟨l',h1,rfl⟩:=List.mem_map.1 hl
  show (l'.2.map ownR).length <= 1000
  rw [List.length_map];exact h.b l' h1
 ·obtain ⟨l',h1,rfl⟩:=List.mem_map.1 hl
  obtain ⟨r',h2,rfl⟩:=List.mem_map.1 (show r ∈ l'.2.map ownR from hr)
  exact h.c l' h1 r' h2
theorem zc5 (s : Sn) (hb : SnB s) (nt n2 : Bool) (T : List Rs) (hT : TbB T) : ∃ (A B : Bool) (e : Int),
  Comp Tryz.prog 94 [snA (ownS s),.sl n2 ((T.map yG).map rsT)] (.tup [.bool A,.int .i64 e]) /\
  Comp Tryz.prog 95 [snA (ownS s),.sl n2 ((T.map yG).map rsT)] (.tup [.bool B,.int .i64 e]) /\
  Comp Tryz.prog 93 [rsA s,.sl nt (T.map rsT)] (.int .i64 e) /\
  (e = 0 -> Comp Tryz.prog 96 [rsA s,.sl nt (T.map rsT)] (.tup [.bool A,.bool B])) /\ (e ≠ 0 -> A = false /\ B = false):=by
 have e:=kL s
 have hbo:=ku hb
 have hTo:=ownT_B hT
 have hE : tabE (ownS s) (T.map yG) = tabE s T:=by rw [<- e.tabE,own_tabE]
 by_cases h : tabE s T = 0
 ·obtain ⟨ok,hM,hV⟩:=v4.1 h
  have hA : ∃ A : Bool,A = true ↔ ∀ y,vld s y -> tbN T y <= zM s (tbN T) y:=⟨@decide _ (Classical.propDecidable _),@decide_eq_true_iff _ (Classical.propDecidable _)⟩
  have hB : ∃ A : Bool,A = true ↔ ∀ y,vld s y -> tbN T y ≥ zM s (tbN T) y:=⟨@decide _ (Classical.propDecidable _),@decide_eq_true_iff _ (Classical.propDecidable _)⟩
  obtain ⟨A,hA⟩:=hA
  obtain ⟨B,hB⟩:=hB
  have hf : tbN (T.map yG) = tbN T:=funext (own_tbN T)
  have hA' : A = true ↔ ∀ y,vld (ownS s) y -> tbN (T.map yG) y <= zM (ownS s) (tbN (T.map yG)) y:=by
   rw [hA,hf]
   exact ⟨fun h y hy=>by rw [<- e.best];exact h y ((e.vld y).2 hy),fun h y hy=>by rw [e.best];exact h y ((e.vld y).1 hy)⟩
  have hB' : B = true ↔ ∀ y,vld (ownS s) y -> tbN (T.map yG) y ≥ zM (ownS s) (tbN (T.map yG)) y:=by
   rw [hB,hf]
   exact ⟨fun h y hy=>by rw [<- e.best];exact h y ((e.vld y).2 hy),fun h y hy=>by rw [e.best];exact h y ((e.vld y).1 hy)⟩
  refine ⟨A,B,0,fhold_ok (ownS s) hbo n2 _ hTo (hE.trans h) A hA',fclos_ok (ownS s) hbo n2 _ hTo (hE.trans h) B hB',?_,fun _=>rShows_c s hb ok nt T (vq hM hV) A B hA hB,fun h=>absurd rfl h⟩
  have:=zaY s hb nt T hT
  rwa [h] at this
 ·refine ⟨false,false,tabE s T,?_,?_,zaY s hb nt T hT,fun h'=>absurd h' h,fun _=>⟨rfl,rfl⟩⟩
  ·have:=fhold_no (ownS s) hbo n2 _ hTo (by rw [hE];exact h)
   rwa [hE] at this
  ·have:=fclos_no (ownS s) hbo n2 _ hTo (by rw [hE];exact h)
   rwa [hE] at this
set_option maxHeartbeats 8000000 in
theorem zbV (s : Sn) (nt : Bool) (T : List Rs) : Comp Tryz.prog 12 [snA s,.sl nt (T.map rsT)] (.bool true):=by
 have hgr:=wb s
 have e1 : ((T.map rsT).length : Int) = T.length:=by rw [List.length_map]
 cases hgs : grtS s with
 | true =>
   rw [hgs] at hgr
   refine Comp.body (T:=tab) (res:=[.tmp 4]) za [] Tryz.func12 rfl (by kernel_rfl) Tryz.ntmps12 rfl (by simp only [List.length_cons,List.length_nil];decide) (by simp only [lowL,AV.low,snL,zZ];rfl) ?_;conv=>whnf
   repeat' first|((first|(with_reducible apply XBr.tt)|(first|refine zb.ret hgr ?_|refine zb.ret zA ?_));conv=>whnf)|fail
   exact XOut.bool rfl
 | false =>
 rw [hgs] at hgr
 by_cases h8 : 8 < T.length
 ·refine Comp.body (T:=tab) (res:=[.tmp 4]) za [] Tryz.func12 rfl (by kernel_rfl) Tryz.ntmps12 rfl (by simp only [List.length_cons,List.length_nil];decide) (by simp only [lowL,AV.low,snL,zZ];rfl) ?_;conv=>whnf
  repeat' first|((with_reducible first|apply XBr.ff|refine XBr.y fun h=>?_|refine XBr.n fun h=>?_|refine XBr.dec (fun h=>?_) fun h=>?_) <;> conv=>whnf)|((first|refine zb.ret hgr ?_|refine zb.ret zA ?_);conv=>whnf)|fail
  exact XOut.bool rfl
 have hb:=(grt_B hgs).1
 have hbo:=ku hb
 have e:=kL s
 have how:=qt s hb
 have hth:=jx s hb
 have hsa:=wV s hb
 refine Comp.body (T:=tab) (res:=[.tmp 4]) za [] Tryz.func12 rfl (by kernel_rfl) Tryz.ntmps12 rfl (by simp only [List.length_cons,List.length_nil];decide) (by simp only [lowL,AV.low,snL,zZ];rfl) ?_;conv=>whnf
 repeat' first|((with_reducible first|apply XBr.ff|refine XBr.y fun h=>?_|refine XBr.n fun h=>?_|refine XBr.dec (fun h=>?_) fun h=>?_) <;> conv=>whnf)|((refine zb.ret hgr ?_);conv=>whnf)|fail
 refine Walk.loopK za [] [(1,_),(2,_),(31,_),(32,_)] ⟨rfl,rfl,rfl,rfl,trivial⟩ (fun p : Nat=>p <= T.length /\ ∀ q,q < p -> (T.getD q default).2.length <= 70 /\ ∀ m,m < (T.getD q default).2.length -> ((T.getD q default).2.getD m default).2.length <= 20) (fun p=>[(33,natA p)]) (fun _=>[]) (fun p=>T.length - p) 0 ⟨Nat.zero_le _,fun q hq=>by omega⟩ rfl ⟨rfl,trivial⟩ ?_
 rintro p ⟨hp,hI⟩
 conv=>whnf
 by_cases hlt : p < T.length
 ·have e2 : (((T.getD p default).2.map rwA).length : Int) = (T.getD p default).2.length:=by rw [List.length_map]
  by_cases h70 : 70 < (T.getD p default).2.length
  ·skip
   repeat' first|((with_reducible first|refine XBr.y fun h=>?_|refine XBr.n fun h=>?_|refine XBr.dec (fun h=>?_) fun h=>?_) <;> conv=>whnf)|((first|refine XIx.a ?_|refine zb.ret zA ?_);conv=>whnf)|fail
   exact XOut.bool rfl
  repeat' first|((with_reducible first|refine XBr.y fun h=>?_|refine XBr.n fun h=>?_|refine XBr.dec (fun h=>?_) fun h=>?_) <;> conv=>whnf)|(refine XIx.a ?_;conv=>whnf)|fail
  refine Walk.loopK za [] [(1,_),(2,_),(31,_),(32,_),(33,_),(41,_),(42,_)] ⟨rfl,rfl,rfl,rfl,rfl,rfl,rfl,trivial⟩ (fun m : Nat=>m <= (T.getD p default).2.length /\ ∀ q,q < m -> ((T.getD p default).2.getD q default).2.length <= 20) (fun m=>[(43,natA m)]) (fun _=>[]) (fun m=>(T.getD p default).2.length - m) 0 ⟨Nat.zero_le _,fun q hq=>by omega⟩ rfl ⟨rfl,trivial⟩ ?_
  rintro m ⟨hm,hJ⟩
  conv=>whnf
  by_cases hlt2 : m < (T.getD p default).2.length
  ·have e3 : ((ints ((T.getD p default).2.getD m default).2).length : Int) = ((T.getD p default).2.getD m default).2.length:=by rw [zK]
   by_cases h20 : 20 < ((T.getD p default).2.getD m default).2.length
   ·skip
    repeat' first|((with_reducible first|refine XBr.y fun h=>?_|refine XBr.n fun h=>?_|refine XBr.dec (fun h=>?_) fun h=>?_) <;> conv=>whnf)|((first|refine XIx.a ?_|refine zb.ret zA ?_);conv=>whnf)|fail
    exact XOut.bool rfl
   repeat' first|((with_reducible first|refine XBr.y fun h=>?_|refine XBr.n fun h=>?_|refine XBr.dec (fun h=>?_) fun h=>?_|refine XInt.a ?_) <;> conv=>whnf)|(refine XIx.a ?_;conv=>whnf)|fail
   refine zj.go (m + 1) ⟨by omega,fun q hq=>?_⟩ (by omega) rfl ⟨rfl,rfl,rfl,rfl,rfl,rfl,rfl,rfl,trivial⟩
   by_cases e : q = m
   ·subst e;omega
   ·exact hJ q (by omega)
  obtain rfl : m = (T.getD p default).2.length:=by omega
  repeat' ((with_reducible first|refine XBr.y fun h=>?_|refine XBr.n fun h=>?_|refine XBr.dec (fun h=>?_) fun h=>?_|refine XInt.a ?_) <;> conv=>whnf)
  refine zj.go (p + 1) ⟨by omega,fun q hq=>?_⟩ (by omega) rfl ⟨rfl,rfl,rfl,rfl,rfl,trivial⟩
  by_cases e : q = p
  ·subst e;exact ⟨by omega,hJ⟩
  ·exact hI q (by omega)
 obtain rfl : p = T.length:=by omega
 have hT : TbB T:=by
  have hr : ∀ l ∈ T,l.2.length <= 70 /\ ∀ r ∈ l.2,r.2.length <= 20:=fun l hl=>by
   obtain ⟨j,hj,rfl⟩:=List.mem_iff_getElem.1 hl
   have h:=hI j hj
   rw [List.getD_eq_getElem?_getD,List.getElem?_eq_getElem hj] at h
   refine ⟨h.1,fun r hr=>?_⟩
   obtain ⟨i,hi,rfl⟩:=List.mem_iff_getElem.1 hr
   have h':=h.2 i hi
   rw [List.getD_eq_getElem?_getD] at h'
   simpa [List.getElem?_eq_getElem hi] using h'
  exact ⟨by omega,fun l hl=>by have:=(hr l hl).1;omega,fun l hl r hr'=>by have:=(hr l hl).2 r hr';omega⟩
 clear hI hlt
 repeat' ((with_reducible first|refine XBr.y fun h=>?_|refine XBr.n fun h=>?_|refine XBr.dec (fun h=>?_) fun h=>?_) <;> conv=>whnf)
 refine Walk.nilgr 9 23 rfl ?_
 refine Walk.thenFreeze 9 0 T.length ?_
 refine Walk.loopGK za [] [(1,_),(2,_),(53,_),(54,_)] ⟨rfl,rfl,rfl,rfl,trivial⟩ (fun k : Nat=>k <= T.length) (fun k=>[(9,.gr 0 k),(55,natA k)]) (fun k=>[.grow 23 (T.take k).isEmpty (((T.take k).map yG).map rsT)]) (fun k=>T.length - k) 0 (Nat.zero_le _) rfl ⟨rfl,rfl,trivial⟩ ?_ (fun _ _=>(show (1 : Nat) <= 1 from Nat.le_refl 1)) ?_
 ·intro k _
  refine ⟨fun z hz=>?_,fun z hz=>?_⟩
  ·rw [List.mem_singleton] at hz;subst hz;exact zZ _
  ·simp only [List.cons_append,List.nil_append,List.mem_cons,List.not_mem_nil,or_false] at hz
   rcases hz with rfl | rfl | rfl | rfl | rfl | rfl <;> first | rfl|exact zZ _|exact snCL s
 intro k hk
 have hnx:=fun h=>zD (xs:=T) (i:=k) h
 have hall : k = T.length -> T.take k = T:=fun h=>by rw [h,List.take_length]
 have hkl : (T.take k).length = k:=by rw [List.length_take];omega
 generalize T.take k = R at hnx hall hkl
 have hRl : ((R.map yG).map rsT).length = k:=by rw [List.length_map,List.length_map];exact hkl
 conv=>whnf
 by_cases hlt : k < T.length
 ·have hm:=zk (d:=default) hlt
  have hdr:=fy (T.getD k default).1 (T.getD k default).2 (hT.b _ hm) (hT.c _ hm)
  repeat' first|((with_reducible first|refine XBr.y fun h=>?_|refine XBr.n fun h=>?_|refine XBr.dec (fun h=>?_) fun h=>?_|refine XInt.a ?_) <;> conv=>whnf)|((first|refine zh.a ?_|refine XIx.a ?_|refine zb.ret hdr ?_);conv=>whnf)|fail
  refine zl.go (k + 1) [] (by omega) (by omega) ?_ ⟨rfl,rfl,rfl,rfl,rfl,rfl,trivial⟩
  show [Blk.grow _ (T.take (k + 1)).isEmpty (((T.take (k + 1)).map yG).map rsT)] ++ [] = _
  rw [hnx hlt,zy,List.map_append,List.map_append];rfl
 obtain rfl : k = T.length:=by omega
 obtain rfl:=hall rfl
 obtain ⟨A,B,ee,ho,hc,hta,hsh,hno⟩:=zc5 s hb nt R.isEmpty R hT
 repeat' first|((with_reducible first|refine XBr.y fun h=>?_|refine XBr.n fun h=>?_|refine XBr.dec (fun h=>?_) fun h=>?_) <;> conv=>whnf)|((refine XFrz.go rfl rfl hRl ?_);conv=>whnf)|fail
 refine Walk.place (Walk.place ?_)
 apply Walk.drawX za zd [] [4,5,6,7] (fun fl=>match fl with
  | [a,b,x,y]=>[.dead,(bif a then .cells (bif x then snC (ownS s) else rsZ') else .free),(bif b then .cells (bif y then rsC s else rsZ') else .free)]
  | _=>[]) [_,_,_,_,.ptr 1 0,.ptr 2 0,_,_] (by kernel_rfl) rfl
 ·skip
  repeat' first|((with_reducible first|apply Chk.go|apply ChkA.go);conv=>whnf)|(with_reducible first|apply XAnd.mk|exact trivial)|(exact zg.mk rfl rfl)|((first|refine zb.ret how ?_|refine zb.ret hth ?_);conv=>whnf)|(first|((refine zt.at 1 rfl ?_);(conv=>whnf);exact zg.mk rfl rfl)|((refine zt.at 2 rfl ?_);(conv=>whnf);exact zg.mk rfl rfl))|fail
 ·skip
  repeat' first|((with_reducible first|apply Chk.go|apply ChkF.go|apply ChkB.go);conv=>whnf)|(with_reducible first|apply XAnd.mk|exact trivial)|(exact zg.mk rfl rfl)|((first|refine zb.ret how ?_|refine zb.ret hth ?_);conv=>whnf)|(first|((refine zt.at 1 rfl ?_);(conv=>whnf);exact zg.mk rfl rfl)|((refine zt.at 2 rfl ?_);(conv=>whnf);exact zg.mk rfl rfl))|fail
 conv=>whnf
 by_cases he0 : ee = 0
 ·subst he0
  have hsh:=hsh rfl
  repeat' first|((with_reducible first|refine XBr.y1 fun h=>?_|refine XBr.n1 fun h=>?_|refine XBr.beq (fun h=>?_) fun h=>?_) <;> conv=>whnf)|((first|refine zb.ret hta ?_|refine zb.ret ho ?_|refine zb.ret hc ?_|refine zb.ret hsh ?_);conv=>whnf)|fail
  have e5 : (R.map yG).length = R.length:=by rw [List.length_map]
  have e4 : (((R.map yG).map rsT).length : Int) = R.length:=by rw [hRl]
  refine Walk.loopK za [] [(2,_),(9,_),(12,_),(14,_),(15,_),(16,_),(17,_),(18,_),(19,_),(20,_),(92,_),(93,_)] ⟨rfl,rfl,rfl,rfl,rfl,rfl,rfl,rfl,rfl,rfl,rfl,rfl,trivial⟩ (fun k : Nat=>k <= R.length) (fun k=>[(94,natA k)]) (fun _=>[.dead,.cells (snC (ownS s)),.cells (rsC s)]) (fun k=>R.length - k) 0 (Nat.zero_le _) rfl ⟨rfl,trivial⟩ ?_
  intro k hk
  conv=>whnf
  by_cases hlt : k < R.length
  ·have hm:=zk (d:=default) hlt
   have heq:=zbn false (R.getD k default).1 (R.getD k default).2 (hT.b _ hm) (hT.c _ hm)
   have hg : (R.map yG).getD k default = yG (R.getD k default):=by
    rw [List.getD_eq_getElem?_getD,List.getD_eq_getElem?_getD,List.getElem?_map,List.getElem?_eq_getElem hlt];rfl
   repeat' first|((with_reducible first|apply XBr.tt|refine XBr.y fun h=>?_|refine XBr.n fun h=>?_|refine XBr.dec (fun h=>?_) fun h=>?_|refine XInt.a ?_) <;> conv=>whnf)|(refine XIx.a ?_;conv=>whnf) | with_reducible apply XBr.not|(rw [hg];(refine zb.ret heq ?_);conv=>whnf)|fail
   exact zj.go (k + 1) (by omega) (by omega) rfl ⟨rfl,rfl,rfl,rfl,rfl,rfl,rfl,rfl,rfl,rfl,rfl,rfl,rfl,trivial⟩
  obtain rfl : k = R.length:=by omega
  repeat' ((with_reducible first|refine XBr.y fun h=>?_|refine XBr.n fun h=>?_|refine XBr.dec (fun h=>?_) fun h=>?_) <;> conv=>whnf)
  refine Walk.norm za [] [(2,_),(12,_),(14,_),(15,_),(16,_),(17,_),(18,_),(19,_),(20,_)] ⟨rfl,rfl,rfl,rfl,rfl,rfl,rfl,rfl,rfl,trivial⟩ ?_
  conv=>whnf
  repeat' first|((with_reducible first|apply XBr.tt|apply XBr.ff|refine XBr.y1 fun h=>?_|refine XBr.n1 fun h=>?_|refine XBr.beq (fun h=>?_) fun h=>?_) <;> conv=>whnf)|((first|refine zb.ret hsa ?_|refine zb.ret zA ?_);conv=>whnf)|((with_reducible refine XBr.mk' (fun h=>?_) fun h=>?_) <;> conv=>whnf)|fail
  all_goals first|exact XOut.bool rfl|(exfalso;simp_all;done)
 ·obtain ⟨rfl,rfl⟩:=hno he0
  repeat' first|((with_reducible first|refine XBr.y1 fun h=>?_|refine XBr.n1 fun h=>?_|refine XBr.beq (fun h=>?_) fun h=>?_) <;> conv=>whnf)|((first|refine zb.ret hta ?_|refine zb.ret ho ?_|refine zb.ret hc ?_);conv=>whnf)|fail
  have e5 : (R.map yG).length = R.length:=by rw [List.length_map]
  have e4 : (((R.map yG).map rsT).length : Int) = R.length:=by rw [hRl]
  refine Walk.loopK za [] [(2,_),(9,_),(12,_),(14,_),(15,_),(16,_),(17,_),(18,_),(19,_),(20,_),(92,_),(93,_)] ⟨rfl,rfl,rfl,rfl,rfl,rfl,rfl,rfl,rfl,rfl,rfl,rfl,trivial⟩ (fun k : Nat=>k <= R.length) (fun k=>[(94,natA k)]) (fun _=>[.dead,.cells (snC (ownS s)),.cells (rsC s)]) (fun k=>R.length - k) 0 (Nat.zero_le _) rfl ⟨rfl,trivial⟩ ?_
  intro k hk
  conv=>whnf
  by_cases hlt : k < R.length
  ·have hm:=zk (d:=default) hlt
   have heq:=zbn false (R.getD k default).1 (R.getD k default).2 (hT.b _ hm) (hT.c _ hm)
   have hg : (R.map yG).getD k default = yG (R.getD k default):=by
    rw [List.getD_eq_getElem?_getD,List.getD_eq_getElem?_getD,List.getElem?_map,List.getElem?_eq_getElem hlt];rfl
   repeat' first|((with_reducible first|apply XBr.tt|refine XBr.y fun h=>?_|refine XBr.n fun h=>?_|refine XBr.dec (fun h=>?_) fun h=>?_|refine XInt.a ?_) <;> conv=>whnf)|(refine XIx.a ?_;conv=>whnf) | with_reducible apply XBr.not|(rw [hg];(refine zb.ret heq ?_);conv=>whnf)|fail
   exact zj.go (k + 1) (by omega) (by omega) rfl ⟨rfl,rfl,rfl,rfl,rfl,rfl,rfl,rfl,rfl,rfl,rfl,rfl,rfl,trivial⟩
  obtain rfl : k = R.length:=by omega
  repeat' ((with_reducible first|refine XBr.y fun h=>?_|refine XBr.n fun h=>?_|refine XBr.dec (fun h=>?_) fun h=>?_) <;> conv=>whnf)
  refine Walk.norm za [] [(2,_),(12,_),(14,_),(15,_),(16,_),(17,_),(18,_),(19,_),(20,_)] ⟨rfl,rfl,rfl,rfl,rfl,rfl,rfl,rfl,rfl,trivial⟩ ?_
  conv=>whnf
  repeat' first|((with_reducible first|apply XBr.tt|apply XBr.ff|refine XBr.y1 fun h=>?_|refine XBr.n1 fun h=>?_|refine XBr.beq (fun h=>?_) fun h=>?_) <;> conv=>whnf)|((first|refine zb.ret hsa ?_|refine zb.ret zA ?_);conv=>whnf)|((with_reducible refine XBr.mk' (fun h=>?_) fun h=>?_) <;> conv=>whnf)|fail
  all_goals first|exact XOut.bool rfl|(exfalso;simp_all;done)
end GA
end
section
namespace GA
open Go Go.RowKit Go.Proofs
structure RInv (s : Sn) (M p l : Nat) (W : T3 Int) : Prop where
 a : ∀ y,vld s y -> W y.p y.m y.l = -1 \/ W y.p y.m y.l = zi s y
 b : ∀ y,vld s y -> (M <= y.m \/ (y.m + 1 = M /\ (y.p < p \/ (y.p = p /\ y.l < l)))) -> W y.p y.m y.l = zi s y
def RAll (s : Sn) (W : T3 Int) : Prop:=∀ y,vld s y -> W y.p y.m y.l = zi s y
theorem RInv.set {s : Sn} {m p l : Nat} {W : T3 Int} (h : RInv s (m + 1) p l W) (hv : vld s ⟨p,m,l⟩) : RInv s (m + 1) p (l + 1) (upd3 W p m l (zi s ⟨p,m,l⟩)):=by
 refine ⟨fun y hy=>?_,fun y hy hd=>?_⟩
 ·by_cases e : y.p = p /\ y.m = m /\ y.l = l
  ·obtain ⟨rfl,rfl,rfl⟩:=e
   rw [jk];exact .inr rfl
  ·rw [yS _ _ e];exact h.a y hy
 ·by_cases e : y.p = p /\ y.m = m /\ y.l = l
  ·obtain ⟨rfl,rfl,rfl⟩:=e
   rw [jk]
  ·rw [yS _ _ e];exact h.b y hy (by omega)
theorem RInv.same {s : Sn} {m p l : Nat} {W : T3 Int} (h : RInv s (m + 1) p l W) (hw : W p m l = zi s ⟨p,m,l⟩) : RInv s (m + 1) p (l + 1) W:=by
 refine ⟨h.a,fun y hy hd=>?_⟩
 by_cases e : y.p = p /\ y.m = m /\ y.l = l
 ·obtain ⟨rfl,rfl,rfl⟩:=e;exact hw
 ·exact h.b y hy (by omega)
theorem RInv.row {s : Sn} {m p : Nat} {W : T3 Int} (h : RInv s (m + 1) p (allN s + 1) W) : RInv s (m + 1) (p + 1) 0 W:=
 ⟨h.a,fun y hy hd=>h.b y hy (by have:=hy.2.2;omega)⟩
theorem RInv.minute {s : Sn} {m p : Nat} {W : T3 Int} (hp : (p : Int) = s.places) (h : RInv s (m + 1) p 0 W) : RInv s m 0 0 W:=
 ⟨h.a,fun y hy hd=>h.b y hy (by have:=hy.1;omega)⟩
theorem RInv.fin {s : Sn} {W : T3 Int} (h : RInv s 0 0 0 W) : RAll s W:=fun y hy=>h.b y hy (.inl (Nat.zero_le _))
theorem RInv.again {s : Sn} {M : Nat} {W : T3 Int} (hM : (M : Int) = s.last + 1) (h : RInv s 0 0 0 W) : RInv s M 0 0 W:=⟨h.a,fun y hy _=>h.fin y hy⟩
theorem RInv.bound {s : Sn} (ok : SnOk s) {m p l : Nat} {W : T3 Int} (h : RInv s (m + 1) p l W) (hv : vld s ⟨p,m,l⟩) (f : Sta -> Int) (hf : ∀ y,vld s y -> f y = W y.p y.m y.l) : zM s f ⟨p,m,l⟩ = zi s ⟨p,m,l⟩:=by
 rw [zaF ok hv.2.1]
 refine wS fun t _ y hy=>?_
 have hvy:=yf ok hy
 have:=(jj ok hy).1
 rw [hf y hvy]
 exact h.b y hvy (.inl (by dsimp only at this;omega))
set_option maxHeartbeats 4000000 in
theorem vr (s : Sn) (hb : SnB s) (ok : SnOk s) (hL59 : s.last <= 59) : Comp Tryz.prog 89 [rsA s] (.sl false ((wrT s).map rsT)):=by
 have p1:=ok.p1;have p2:=ok.p2;have l1:=ok.l1
 have hal:=ym ok
 have hac:=qI s (by have:=ok.t2;omega)
 obtain ⟨P0,hP0⟩ : ∃ P0 : Nat,s.places = P0:=⟨s.places.toNat,by omega⟩
 obtain ⟨L0,hL0⟩ : ∃ L0 : Nat,s.last = L0:=⟨s.last.toNat,by omega⟩
 obtain ⟨N0,hN0⟩ : ∃ N0 : Nat,N0 = allN s + 1:=⟨_,rfl⟩
 have hNt : (((allN s : Nat) : Int) + 1).toNat = N0:=by omega
 have hrep : List.replicate (((allN s : Nat) : Int) + 1).toNat (AV.int .i64 0) = zvs N0 fun k=>if k < 0 then -1 else 0:=by
  rw [hNt,zvs0];unfold zvs;rw [zB fun i _=>(if_neg (Nat.not_lt_zero i)).symm]
 refine Comp.body (T:=tab) (res:=[.tmp 2]) za [] Tryz.func89 rfl (by kernel_rfl) Tryz.ntmps89 rfl (by simp only [List.length_cons,List.length_nil];decide) (by simp only [lowL,AV.low,rsL];rfl) ?_;conv=>whnf
 skip
 refine Walk.nilgr 3 23 rfl ?_
 refine Walk.loopK za [] [(1,_),(2,_)] ⟨rfl,rfl,trivial⟩ (fun p : Nat=>p <= P0) (fun p=>[(3,.gr 0 p),(4,natA p)]) (fun p=>vecF (rowI (L0 + 1) p) (memB (L0 + 1) N0 p 0 fun _ _ _=>-1)) (fun p=>P0 - p) 0 (Nat.zero_le _) (bld_init _ _ _) ⟨rfl,rfl,trivial⟩ ?_
 intro p hp
 obtain ⟨H,hH⟩ : ∃ H,H = vecF (rowI (L0 + 1) p) (memB (L0 + 1) N0 p 0 fun _ _ _=>-1):=⟨_,rfl⟩
 refine XRun.heap H hH ?_
 conv=>whnf
 by_cases hlt : p < P0
 ·skip
  repeat' ((with_reducible first|refine XBr.y fun h=>?_|refine XBr.n fun h=>?_|refine XBr.dec (fun h=>?_) fun h=>?_) <;> conv=>whnf)
  refine Walk.nilgr 5 22 rfl ?_
  refine Walk.loopK za [] [(1,_),(2,_),(3,_),(4,_)] ⟨rfl,rfl,rfl,rfl,trivial⟩ (fun m : Nat=>m <= L0 + 1) (fun m=>[(5,.gr (rowI (L0 + 1) p) m),(6,natA m)]) (fun m=>bldW (L0 + 1) N0 p m fun _ _ _=>-1) (fun m=>L0 + 1 - m) 0 (Nat.zero_le _) (by rw [hH];exact (bld_row _ _ _ _).symm) ⟨(by rw [hH];show some (AV.gr (vecF _ _).length 0) = _;rw [zx]),rfl,trivial⟩ ?_
  intro m hm
  obtain ⟨H1,hH1⟩ : ∃ H1,H1 = bldW (L0 + 1) N0 p m fun _ _ _=>-1:=⟨_,rfl⟩
  have hl1 : H1.length = celI (L0 + 1) p m:=by rw [hH1];exact bld_len _ _ _ _ _
  have h1t : lget H1 0 = some (.grow 23 (decide (p = 0)) (vecF p fun p=>.gr (rowI (L0 + 1) p) (L0 + 1))):=by rw [hH1];exact bld_t _ _ _ _ _
  have h1r : lget H1 (rowI (L0 + 1) p) = some (.grow 22 (decide (p = p /\ m = 0)) (vecF m fun m=>.gr (celI (L0 + 1) p m) N0)):=by rw [hH1];exact bld_r _ _ _ _ _
  have hrl : rowI (L0 + 1) p < H1.length:=by rw [hl1];unfold celI;omega
  refine XRun.heap H1 hH1 ?_
  conv=>whnf
  by_cases hlt2 : m < L0 + 1
  ·skip
   repeat' first|((with_reducible first|refine XBr.y fun h=>?_|refine XBr.n fun h=>?_|refine XBr.dec (fun h=>?_) fun h=>?_|refine XInt.a ?_) <;> conv=>whnf)|((first|refine zh.a ?_|refine zb.ret hac ?_);conv=>whnf)|fail
   have hfr : qm H1 = false:=by
    rw [hH1]
    refine vF fun x hx=>?_
    obtain ⟨j,-,rfl⟩:=yd.1 hx
    have hb : ∃ t nl els,memB (L0 + 1) N0 p m (fun _ _ _=>(-1 : Int)) j = .grow t nl els:=by
     unfold memB
     split
     ·exact ⟨_,_,_,rfl⟩
     ·split <;> exact ⟨_,_,_,rfl⟩
    obtain ⟨t,nl,els,e⟩:=hb
    rw [e]
   rw [hfr]
   conv=>whnf
   refine fR (celI (L0 + 1) p m) (H1 ++ [Blk.grow 3 false (zvs N0 fun k=>if k < 0 then -1 else 0)]) (by rw [Nat.zero_add];exact hl1) (by rw [hrep]) ?_
   conv=>whnf
   skip
   refine Walk.loopK za [] [(1,_),(2,_),(3,_),(4,_),(5,_),(6,_),(7,.gr (celI (L0 + 1) p m) N0)] ⟨rfl,rfl,rfl,rfl,rfl,rfl,(by show some (AV.gr _ _) = some (AV.gr _ _);rw [hNt]),trivial⟩ (fun l : Nat=>l <= N0) (fun l=>[(8,natA l)]) (fun l=>H1 ++ [Blk.grow 3 false (zvs N0 fun k=>if k < l then -1 else 0)]) (fun l=>N0 - l) 0 (Nat.zero_le _) rfl ⟨rfl,trivial⟩ ?_
   intro l hl
   have hzl : (zvs N0 fun k=>if k < l then -1 else 0).length = N0:=y7 _ _
   have hzs : (zvs N0 fun k=>if k < l then -1 else 0).set l (.int .i64 (-1)) = zvs N0 fun k=>if k < l + 1 then -1 else 0:=by
    rw [zbu]
    unfold zvs
    congr 1
    refine zB fun k _=>?_
    unfold updV
    show (if k = l then (-1 : Int) else if k < l then -1 else 0) = if k < l + 1 then -1 else 0
    by_cases e : k = l
    ·rw [if_pos e,if_pos (by omega)]
    ·rw [if_neg e]
     by_cases e2 : k < l
     ·rw [if_pos e2,if_pos (by omega)]
     ·rw [if_neg e2,if_neg (by omega)]
   have hze : l = N0 -> (zvs N0 fun k=>if k < l then -1 else 0) = zvs N0 fun _=>-1:=fun h=>by
    unfold zvs
    congr 1
    exact zB fun k hk=>if_pos (by omega)
   generalize (zvs N0 fun k=>if k < l then -1 else 0) = zs at hzl hzs hze
   obtain ⟨H2,hH2⟩ : ∃ H2,H2 = H1 ++ [Blk.grow 3 false zs]:=⟨_,rfl⟩
   have h2c : lget H2 (celI (L0 + 1) p m) = some (.grow 3 false zs):=by rw [hH2];exact vj hl1.symm
   have h2r : lget H2 (rowI (L0 + 1) p) = some (.grow 22 (decide (p = p /\ m = 0)) (vecF m fun m=>.gr (celI (L0 + 1) p m) N0)):=by rw [hH2,zo,List.getElem?_append_left hrl,<- zo];exact h1r
   have h2l : H2.length = celI (L0 + 1) p m + 1:=by rw [hH2,List.length_append,hl1];rfl
   refine XRun.heap H2 hH2 ?_
   conv=>whnf
   by_cases hlt3 : l < N0
   ·skip
    repeat' first|((with_reducible first|refine XBr.y fun h=>?_|refine XBr.n fun h=>?_|refine XBr.dec (fun h=>?_) fun h=>?_) <;> conv=>whnf)|(refine zh.a ?_;conv=>whnf)|(rw [h2c];conv=>whnf)|((first|refine zh.mk ⟨hzl,rfl,by omega,by omega⟩ ?_|refine XPut.to (zvs N0 fun k=>if k < l + 1 then -1 else 0) hzl.symm hlt3 hzs ?_);conv=>whnf)|fail
    refine yu (H1 ++ [Blk.grow 3 false (zvs N0 fun k=>if k < l + 1 then -1 else 0)]) (by omega) (by rw [hH2];exact vY hl1.symm) ?_
    conv=>whnf
    repeat' ((with_reducible refine XInt.a ?_);conv=>whnf)
    exact zj.go (l + 1) (by omega) (by omega) rfl ⟨rfl,rfl,rfl,rfl,rfl,rfl,rfl,rfl,trivial⟩
   obtain rfl : l = N0:=by omega
   have hze:=hze rfl
   repeat' first|((with_reducible first|refine XBr.y fun h=>?_|refine XBr.n fun h=>?_|refine XBr.dec (fun h=>?_) fun h=>?_) <;> conv=>whnf)|(refine zh.a ?_;conv=>whnf)|(rw [h2c];conv=>whnf)|(rw [h2r];conv=>whnf)|((refine zh.mk ⟨rfl,zx _ _,by unfold Room;constructor <;> ((try simp) <;> omega)⟩ ?_);conv=>whnf)|fail
   refine yu (bldW (L0 + 1) l p (m + 1) fun _ _ _=>-1) (by omega) ?_ ?_
   ·rw [hH2,hH1,hze]
    show (_ : List Blk).set _ (.grow _ (_ && false) _) = _
    rw [Bool.and_false];exact bld_app hlt2
   conv=>whnf
   repeat' ((with_reducible refine XInt.a ?_);conv=>whnf)
   exact zj.go (m + 1) (by omega) (by omega) rfl ⟨rfl,rfl,rfl,rfl,rfl,rfl,trivial⟩
  obtain rfl : m = L0 + 1:=by omega
  repeat' first|((with_reducible first|refine XBr.y fun h=>?_|refine XBr.n fun h=>?_|refine XBr.dec (fun h=>?_) fun h=>?_) <;> conv=>whnf)|(refine zh.a ?_;conv=>whnf)|(rw [h1t];conv=>whnf)|((refine zh.mk ⟨rfl,zx _ _,by unfold Room;constructor <;> ((try simp) <;> omega)⟩ ?_);conv=>whnf)|fail
  refine yu (vecF (rowI (L0 + 1) (p + 1)) (memB (L0 + 1) N0 (p + 1) 0 fun _ _ _=>-1)) (by omega) ?_ ?_
  ·rw [hH1]
   show (_ : List Blk).set _ (.grow _ (_ && false) _) = _
   rw [Bool.and_false];exact bld_next (by omega)
  conv=>whnf
  repeat' ((with_reducible refine XInt.a ?_);conv=>whnf)
  exact zj.go (p + 1) (by omega) (by omega) rfl ⟨rfl,rfl,rfl,rfl,trivial⟩
 obtain rfl : p = P0:=by omega
 repeat' ((with_reducible first|refine XBr.y fun h=>?_|refine XBr.n fun h=>?_|refine XBr.dec (fun h=>?_) fun h=>?_) <;> conv=>whnf)
 refine Walk.loopK za [] [(1,_),(2,_),(3,_)] ⟨rfl,rfl,rfl,trivial⟩ (fun g : Bool × T3 Int × Bool=>RInv s (L0 + 1) 0 0 g.2.1 /\ (g.1 = true -> RAll s g.2.1) /\ (g.2.2 = false -> g.1 = true)) (fun g=>[(9,.bool g.2.2)]) (fun g=>memW (L0 + 1) N0 p g.2.1) (fun g=>(if g.1 = true then 0 else 2) + if g.2.2 = true then 1 else 0) (false,(fun _ _ _=>-1),true) ⟨⟨fun _ _=>.inl rfl,fun y hy hd=>by have:=hy.2.1;omega⟩,by simp,by simp⟩ hH.symm ⟨rfl,trivial⟩ ?_
 rintro ⟨ph,W,r⟩ ⟨hI,hA,hr⟩
 dsimp only at hI hA hr ⊢
 obtain ⟨H1,hH1⟩ : ∃ H1,H1 = memW (L0 + 1) N0 p W:=⟨_,rfl⟩
 refine XRun.heap H1 hH1 ?_
 conv=>whnf
 cases r with
 | false =>
   repeat' ((with_reducible apply XBr.ff);conv=>whnf)
   refine ⟨?_⟩
   have hall:=hA (hr rfl)
   have e : wrT s = mkT p (L0 + 1) N0 W:=by
    unfold wrT
    rw [show s.places.toNat = p by omega,show (s.last + 1).toNat = L0 + 1 by omega,<- hN0]
    exact zaW fun q m l hq hm hl=>(hall ⟨q,m,l⟩ ⟨by show (q : Int) < s.places;omega,by show (m : Int) <= s.last;omega,by show l <= allN s;omega⟩).symm
   rw [e,hH1]
   exact zaN W (by omega)
 | true =>
 repeat' ((with_reducible apply XBr.tt);conv=>whnf)
 refine Walk.loopK za [] [(1,_),(2,_),(3,_)] ⟨rfl,rfl,rfl,trivial⟩ (fun g : Nat × T3 Int × Bool=>g.1 <= L0 + 1 /\ RInv s g.1 0 0 g.2.1 /\ (ph = true -> RAll s g.2.1 /\ g.2.2 = false)) (fun g=>[(9,.bool g.2.2),(10,.int .i64 ((g.1 : Int) - 1))]) (fun g=>memW (L0 + 1) N0 p g.2.1) (fun g=>g.1) (L0 + 1,W,false) ⟨Nat.le_refl _,hI,fun h=>⟨hA h,rfl⟩⟩ hH1.symm ⟨rfl,(by show some (AV.int .i64 s.last) = some (AV.int .i64 (((L0 + 1 : Nat) : Int) - 1));congr 2;omega),trivial⟩ ?_
 clear hI hA hr hH1
 rintro ⟨M,W,r⟩ ⟨hM,hI,hA⟩
 dsimp only at hM hI hA ⊢
 obtain ⟨H1,hH1⟩ : ∃ H1,H1 = memW (L0 + 1) N0 p W:=⟨_,rfl⟩
 refine XRun.heap H1 hH1 ?_
 conv=>whnf
 cases M with
 | zero =>
   repeat' ((with_reducible first|refine XBr.y fun h=>?_|refine XBr.n fun h=>?_|refine XBr.dec (fun h=>?_) fun h=>?_) <;> conv=>whnf)
   refine zj.go (true,W,r) ⟨hI.again (by omega),fun _=>hI.fin,fun _=>rfl⟩ ?_ hH1.symm ⟨rfl,rfl,rfl,rfl,trivial⟩
   dsimp only
   cases ph with
   | true=>obtain ⟨-,rfl⟩:=hA rfl;simp
   | false=>cases r <;> simp
 | succ m =>
 repeat' ((with_reducible first|refine XBr.y fun h=>?_|refine XBr.n fun h=>?_|refine XBr.dec (fun h=>?_) fun h=>?_) <;> conv=>whnf)
 refine Walk.loopK za [] [(1,_),(2,_),(3,_),(10,natA m)] ⟨rfl,rfl,rfl,(by show some (AV.int .i64 (((m + 1 : Nat) : Int) - 1)) = some (AV.int .i64 (m : Int));congr 2;omega),trivial⟩ (fun g : Nat × T3 Int × Bool=>g.1 <= p /\ RInv s (m + 1) g.1 0 g.2.1 /\ (ph = true -> RAll s g.2.1 /\ g.2.2 = false)) (fun g=>[(9,.bool g.2.2),(11,natA g.1)]) (fun g=>memW (L0 + 1) N0 p g.2.1) (fun g=>p - g.1) (0,W,r) ⟨Nat.zero_le _,hI,hA⟩ hH1.symm ⟨rfl,rfl,trivial⟩ ?_
 clear hI hA hH1
 rintro ⟨q,W,r⟩ ⟨hq,hI,hA⟩
 dsimp only at hq hI hA ⊢
 obtain ⟨H1,hH1⟩ : ∃ H1,H1 = memW (L0 + 1) N0 p W:=⟨_,rfl⟩
 refine XRun.heap H1 hH1 ?_
 conv=>whnf
 by_cases hlt : q < p
 rotate_left
 ·obtain rfl : q = p:=by omega
  repeat' ((with_reducible first|refine XBr.y fun h=>?_|refine XBr.n fun h=>?_|refine XBr.dec (fun h=>?_) fun h=>?_|refine XInt.a ?_) <;> conv=>whnf)
  exact zj.go (m,W,r) ⟨by dsimp only;omega,hI.minute (by omega),hA⟩ (by dsimp only;omega) hH1.symm ⟨rfl,rfl,rfl,rfl,rfl,trivial⟩
 repeat' ((with_reducible first|refine XBr.y fun h=>?_|refine XBr.n fun h=>?_|refine XBr.dec (fun h=>?_) fun h=>?_) <;> conv=>whnf)
 refine Walk.loopK za [] [(1,_),(2,_),(3,_),(10,_),(11,_)] ⟨rfl,rfl,rfl,rfl,rfl,trivial⟩ (fun g : Nat × T3 Int × Bool=>g.1 <= N0 /\ RInv s (m + 1) q g.1 g.2.1 /\ (ph = true -> RAll s g.2.1 /\ g.2.2 = false)) (fun g=>[(9,.bool g.2.2),(12,natA g.1)]) (fun g=>memW (L0 + 1) N0 p g.2.1) (fun g=>N0 - g.1) (0,W,r) ⟨Nat.zero_le _,hI,hA⟩ hH1.symm ⟨rfl,rfl,trivial⟩ ?_
 clear hI hA hH1
 rintro ⟨l,W,r⟩ ⟨hl,hI,hA⟩
 dsimp only at hl hI hA ⊢
 obtain ⟨H1,hH1⟩ : ∃ H1,H1 = memW (L0 + 1) N0 p W:=⟨_,rfl⟩
 refine XRun.heap H1 hH1 ?_
 conv=>whnf
 by_cases hlt2 : l < N0
 rotate_left
 ·obtain rfl : l = N0:=by omega
  repeat' first|((with_reducible first|refine XBr.y fun h=>?_|refine XBr.n fun h=>?_|refine XBr.dec (fun h=>?_) fun h=>?_|refine XInt.a ?_) <;> conv=>whnf)|((refine zb.ret hac ?_);conv=>whnf)|fail
  exact zj.go (q + 1,W,r) ⟨by dsimp only;omega,RInv.row (by rw [<- hN0];exact hI),hA⟩ (by dsimp only;omega) hH1.symm ⟨rfl,rfl,rfl,rfl,rfl,rfl,trivial⟩
 have hv : vld s ⟨q,m,l⟩:=⟨by show (q : Int) < s.places;omega,by show (m : Int) <= s.last;omega,by show l <= allN s;omega⟩
 have hT : TbOk s (mkT p (L0 + 1) N0 W):=za1 (by omega) (by omega) hN0 hL59 hI.a
 have hbo:=zco s hb ok false _ hT ⟨q,m,l⟩ ⟨hv.1,hv.2.1,by show l <= 1000;omega⟩ hv.2.2
 rw [hI.bound ok hv (tbN (mkT p (L0 + 1) N0 W)) (fun y hy=>mkT_at (by have:=hy.1;omega) (by have:=hy.2.1;omega) (by have:=hy.2.2;omega))] at hbo
 have hfl : yC Tryz.prog H1 [rsA s,.gr 0 p,staA ⟨q,m,l⟩] [rsA s,.sl false ((mkT p (L0 + 1) N0 W).map rsT),staA ⟨q,m,l⟩]:=
  .cons (.low (rsL s)) (.cons (by rw [hH1];exact zaN W (by omega)) (.cons (.low rfl) .nil))
 have h0 : lget H1 0 = some (.grow 23 false (vecF p fun p=>.gr (rowI (L0 + 1) p) (L0 + 1))):=by rw [hH1];exact memW_t (by omega)
 have h1 : lget H1 (rowI (L0 + 1) q) = some (.grow 22 false (vecF (L0 + 1) fun m=>.gr (celI (L0 + 1) q m) N0)):=by rw [hH1];exact memW_r hlt
 have h2 : lget H1 (celI (L0 + 1) q m) = some (.grow 3 false (zvs N0 fun l=>W q m l)):=by rw [hH1];exact memW_c hlt (by omega)
 have hlen : celI (L0 + 1) q m < H1.length:=by rw [hH1,vX];exact gF hlt (by omega)
 have hset : H1.set (celI (L0 + 1) q m) (.grow 3 false (zvs N0 (updV (fun l=>W q m l) l (zi s ⟨q,m,l⟩)))) = memW (L0 + 1) N0 p (upd3 W q m l (zi s ⟨q,m,l⟩)):=by rw [hH1];exact zb2 hlt (by omega)
 have hIs:=hI.set hv
 have hIa:=hI.a _ hv
 have hge:=yQ s ⟨q,m,l⟩
 have hIm:=hI.same (p:=q) (l:=l)
 have hAl : ph = true -> W q m l = zi s ⟨q,m,l⟩:=fun h=>(hA h).1 _ hv
 dsimp only at hIa
 generalize zi s ⟨q,m,l⟩ = wz at hbo hset hIs hIa hge hIm hAl
 have hm' : m < L0 + 1:=by omega
 by_cases hgt : W q m l < wz
 ·skip
  repeat' first|((with_reducible first|refine XBr.y fun h=>?_|refine XBr.n fun h=>?_|refine XBr.dec (fun h=>?_) fun h=>?_|refine XInt.a ?_) <;> conv=>whnf)|((first|refine zb.ret hac ?_|refine zb.lend hbo hfl rfl ?_);conv=>whnf)|(rw [h0];conv=>whnf)|(rw [h1];conv=>whnf)|(rw [h2];conv=>whnf)|((first|refine zh.mk ⟨zx _ _,rfl,by omega,by omega⟩ ?_|refine zh.mk ⟨y7 _ _,rfl,by omega,by omega⟩ ?_|refine XGet.to (.gr (rowI (L0 + 1) q) (L0 + 1)) (zx _ _).symm hlt (kv _ hlt) ?_|refine XGet.to (.gr (celI (L0 + 1) q m) N0) (zx _ _).symm hm' (kv _ hm') ?_|refine XGet.to (.int .i64 (W q m l)) (y7 _ _).symm hlt2 (zvs_at hlt2) ?_|refine XPut.to _ (y7 _ _).symm hlt2 (zbu _ _ _ _) ?_|refine yu _ hlen hset ?_);conv=>whnf)|fail
  refine zj.go (l + 1,upd3 W q m l wz,true) ⟨by dsimp only;omega,hIs,fun h=>?_⟩ (by dsimp only;omega) rfl ⟨rfl,rfl,rfl,rfl,rfl,rfl,rfl,trivial⟩
  have:=hAl h
  omega
 ·have hw : W q m l = wz:=by omega
  repeat' first|((with_reducible first|refine XBr.y fun h=>?_|refine XBr.n fun h=>?_|refine XBr.dec (fun h=>?_) fun h=>?_|refine XInt.a ?_) <;> conv=>whnf)|((first|refine zb.ret hac ?_|refine zb.lend hbo hfl rfl ?_);conv=>whnf)|(rw [h0];conv=>whnf)|(rw [h1];conv=>whnf)|(rw [h2];conv=>whnf)|((first|refine zh.mk ⟨zx _ _,rfl,by omega,by omega⟩ ?_|refine zh.mk ⟨y7 _ _,rfl,by omega,by omega⟩ ?_|refine XGet.to (.gr (rowI (L0 + 1) q) (L0 + 1)) (zx _ _).symm hlt (kv _ hlt) ?_|refine XGet.to (.gr (celI (L0 + 1) q m) N0) (zx _ _).symm hm' (kv _ hm') ?_|refine XGet.to (.int .i64 (W q m l)) (y7 _ _).symm hlt2 (zvs_at hlt2) ?_);conv=>whnf)|fail
  exact zj.go (l + 1,W,r) ⟨by dsimp only;omega,hIm hw,hA⟩ (by dsimp only;omega) hH1.symm ⟨rfl,rfl,rfl,rfl,rfl,rfl,rfl,trivial⟩
end GA
end
section
namespace GA
open Go Go.RowKit Go.Proofs
def qH (s : Sn) (n : Int) : Bool:=decide (n < s.last) && decide (s.last <= 60)
theorem zc8 (s : Sn) (n : Int) : Comp Tryz.prog 87 [snA s,.int .i64 n] (.bool (qH s n)):=by
 refine Comp.body (T:=tab) (res:=[.tmp 4]) za [] Tryz.func87 rfl (by kernel_rfl) Tryz.ntmps87 rfl (by simp only [List.length_cons,List.length_nil];decide) (by simp only [lowL,AV.low,snL];rfl) ?_;conv=>whnf
 repeat' ((with_reducible first|apply XBr.tt|apply XBr.ff|refine XBr.y fun h=>?_|refine XBr.n fun h=>?_|refine XBr.dec (fun h=>?_) fun h=>?_) <;> conv=>whnf)
 all_goals (refine XOut.bool ?_;unfold qH;rw [Bool.eq_iff_iff];simp;try omega)
theorem za0 {s : Sn} {n : Int} (ok : SnOk s) (h : qH s n = false) : s.last <= n:=by
 unfold qH at h
 rw [decide_eq_true ok.l2,Bool.and_true,decide_eq_false_iff_not] at h
 omega
theorem SnEq.wrT {s u : Sn} (e : SnEq s u) : GA.wrT s = GA.wrT u:=by
 unfold GA.wrT
 rw [e.places,e.last,e.allN]
 exact zaW fun p m l _ _ _=>e.worth _
theorem SnEq.rule {s u : Sn} (e : SnEq s u) (x : Sta) : kZ s x = kZ u x:=by
 unfold kZ ye
 rw [e.worth,e.home,e.steps,show (fun t=>zP s (zi s) x t == zi u x) = (fun t=>zP u (zi u) x t == zi u x) from funext fun t=>by rw [e.gain,show zi s = zi u from funext e.worth]]
theorem own_rows (R : List Rw) (h : ∀ r ∈ R,r.1 = false) : R.map ownR = R:=by
 rw [List.map_congr_left (g:=id) fun r hr=>by rw [<- Prod.eta r,h r hr];rfl,List.map_id]
theorem wrT_row {s : Sn} {p : Nat} (hp : p < (wrT s).length) : (wrT s).getD p default = (false,vecF (s.last + 1).toNat fun m=>(false,vecF (allN s + 1) fun l=>zi s ⟨p,m,l⟩)):=by
 unfold wrT at hp ⊢
 rw [gA] at hp
 exact mkT_p hp
def fstR (s : Sn) (x : Sta) (L : List (Int × Int)) : Option (Int × Int):=L.find? fun t=>zP s (zi s) x t == zi s x
theorem fstR_next (s : Sn) (x : Sta) (L : List (Int × Int)) (t : Int × Int) : fstR s x (L ++ [t]) = if (fstR s x L).isSome = true then fstR s x L else if zP s (zi s) x t = zi s x then some t else none:=by
 unfold fstR
 rw [List.find?_append]
 cases L.find? fun t=>zP s (zi s) x t == zi s x with
 | some y=>rfl
 | none =>
   rw [Option.none_or,List.find?_cons]
   by_cases h : zP s (zi s) x t = zi s x
   ·rw [show (zP s (zi s) x t == zi s x) = true by simpa using h,if_pos h];rfl
   ·rw [show (zP s (zi s) x t == zi s x) = false by simpa using h,if_neg h];rfl
theorem rule_fst {s : Sn} {x : Sta} (h : 0 <= zi s x) (h2 : (x.p : Int) ≠ s.home \/ 0 < zi s x) : kZ s x = fstR s x (zT s x):=by
 unfold kZ fstR
 rw [if_neg]
 rintro (h3 | h3)
 ·omega
 ·unfold ye at h3
  split at h3 <;> omega
theorem rule_no {s : Sn} {x : Sta} (h : zi s x < 0 \/ ((x.p : Int) = s.home /\ zi s x <= 0)) : kZ s x = none:=by
 unfold kZ
 have:=yQ s x
 rw [if_pos]
 rcases h with h | h
 ·left;omega
 ·by_cases h0 : zi s x = -1
  ·exact .inl h0
  ·right;unfold ye;rw [if_pos h.1];omega
def erO (o : Option (Int × Int)) : Int:=if o.isSome = true then 0 else 6
theorem zcz {s : Sn} {f g : Sta -> Int} {x : Sta} {t : Int × Int} (h : ∀ y ∈ zm s x t,f y = g y) : zP s f x t = zP s g x t:=by
 unfold zP;rw [fT h]
theorem wrT_rows {s : Sn} (ok : SnOk s) (k : Nat) (hk : k < (wrT s).length) : Comp Tryz.prog 90 [rsT ((wrT s).getD k default),rsT ((wrT s).getD k default)] (.bool true):=by
 have hal:=ym ok;have l1:=ok.l1;have l2:=ok.l2
 rw [wrT_row hk]
 generalize hR : (vecF (s.last + 1).toNat fun m=>((false,vecF (allN s + 1) fun l=>zi s ⟨k,m,l⟩) : Rw)) = R
 have h1 : R.length <= 1000:=by rw [<- hR,zx];omega
 have h2 : ∀ r ∈ R,r.2.length <= 1000 /\ r.1 = false:=fun r hr=>by
  rw [<- hR] at hr
  obtain ⟨m,-,rfl⟩:=yd.1 hr
  exact ⟨by show (vecF _ _).length <= 1000;rw [zx];omega,rfl⟩
 have:=zbn false false R h1 fun r hr=>(h2 r hr).1
 rw [own_rows R fun r hr=>(h2 r hr).2] at this
 exact this
set_option maxHeartbeats 8000000 in
theorem zch (s : Sn) (p m l : Int) : Comp Tryz.prog 11 [snA s,xA p m l] (.bool true):=by
 have hgr:=wb s
 have hwd:=zc8 s 16
 cases hgs : grtS s with
 | true =>
   rw [hgs] at hgr
   refine Comp.body (T:=tab) (res:=[.tmp 4]) za [] Tryz.func11 rfl (by kernel_rfl) Tryz.ntmps11 rfl (by simp only [List.length_cons,List.length_nil];decide) (by simp only [lowL,AV.low,snL,xL];rfl) ?_;conv=>whnf
   repeat' first|((first|(with_reducible apply XBr.tt)|(first|refine zb.ret hgr ?_|refine zb.ret zA ?_));conv=>whnf)|fail
   exact XOut.bool rfl
 | false =>
 rw [hgs] at hgr
 cases hws : qH s 16 with
 | true =>
   rw [hws] at hwd
   refine Comp.body (T:=tab) (res:=[.tmp 4]) za [] Tryz.func11 rfl (by kernel_rfl) Tryz.ntmps11 rfl (by simp only [List.length_cons,List.length_nil];decide) (by simp only [lowL,AV.low,snL,xL];rfl) ?_;conv=>whnf
   repeat' first|((first|(with_reducible first|apply XBr.tt|apply XBr.ff)|(first|refine zb.ret hgr ?_|refine zb.ret hwd ?_|refine zb.ret zA ?_));conv=>whnf)|fail
   exact XOut.bool rfl
 | false =>
 rw [hws] at hwd
 have hb:=(grt_B hgs).1
 have hbo:=ku hb
 have e:=kL s
 have how:=qt s hb
 have hth:=jx s hb
 have hsa:=wV s hb
 have hck:=jJ s hb
 by_cases h0 : snE s = 0
 rotate_left
 ·have hst0 : sttE s p m l = snE s:=by unfold sttE;rw [if_pos h0]
  have hmd:=fMade_no (ownS s) hbo (by rw [<- e.err];exact h0)
  have hwo:=zaD (ownS s) hbo p m l (by rw [<- e.sttE,hst0];exact h0)
  have hru:=fG (ownS s) hbo p m l (by rw [<- e.sttE,hst0];exact h0)
  rw [<- e.err] at hmd
  rw [<- e.sttE,hst0] at hwo hru
  generalize snE s = v at h0 hck hmd hwo hru
  have e00 : (([] : List AV).length : Int) = 0:=rfl
  refine Comp.body (T:=tab) (res:=[.tmp 4]) za [] Tryz.func11 rfl (by kernel_rfl) Tryz.ntmps11 rfl (by simp only [List.length_cons,List.length_nil];decide) (by simp only [lowL,AV.low,snL,xL];rfl) ?_;conv=>whnf
  repeat' first|((first|(with_reducible apply XBr.ff)|(first|refine zb.ret hgr ?_|refine zb.ret hwd ?_));conv=>whnf)|fail
  refine Walk.place (Walk.place (Walk.place ?_))
  apply Walk.drawX za zd [] [5,6,7,8,9,10] (fun fl=>match fl with
   | [a,b,c,x,y,z]=>[(bif a then .cells (bif x then snC (ownS s) else rsZ') else .free),(bif b then .cells (bif y then rsC s else rsZ') else .free),(bif c then .cells (bif z then [.int .i64 p,.int .i64 m,.int .i64 l] else [.int .i64 0,.int .i64 0,.int .i64 0]) else .free)]
   | _=>[]) [_,_,_,_,_,.ptr 0 0,.ptr 1 0,.ptr 2 0,_,_,_] (by kernel_rfl) rfl
  ·skip
   repeat' first|((with_reducible first|apply Chk.go|apply ChkA.go);conv=>whnf)|(with_reducible first|apply XAnd.mk|exact trivial)|(exact zg.mk rfl rfl)|((first|refine zb.ret how ?_|refine zb.ret hth ?_);conv=>whnf)|(first|((refine zt.at 0 rfl ?_);(conv=>whnf);exact zg.mk rfl rfl)|((refine zt.at 1 rfl ?_);(conv=>whnf);exact zg.mk rfl rfl)|((refine zt.at 2 rfl ?_);(conv=>whnf);exact zg.mk rfl rfl))|fail
  ·skip
   repeat' first|((with_reducible first|apply Chk.go|apply ChkF.go|apply ChkB.go);conv=>whnf)|(with_reducible first|apply XAnd.mk|exact trivial)|(exact zg.mk rfl rfl)|((first|refine zb.ret how ?_|refine zb.ret hth ?_);conv=>whnf)|(first|((refine zt.at 0 rfl ?_);(conv=>whnf);exact zg.mk rfl rfl)|((refine zt.at 1 rfl ?_);(conv=>whnf);exact zg.mk rfl rfl)|((refine zt.at 2 rfl ?_);(conv=>whnf);exact zg.mk rfl rfl))|fail
  conv=>whnf
  repeat' first|((with_reducible first|apply XBr.tt|apply XBr.ff|refine XBr.y fun h=>?_|refine XBr.n fun h=>?_|refine XBr.dec (fun h=>?_) fun h=>?_|refine XBr.y2 fun h=>?_|refine XBr.n2 fun h=>?_|refine XBr.bne (fun h=>?_) fun h=>?_) <;> conv=>whnf)|((first|refine zb.ret hck ?_|refine zb.ret hmd ?_|refine zb.ret hwo ?_|refine zb.ret hru ?_);conv=>whnf)|fail
  refine Walk.norm za [] [(2,_),(5,_),(8,_),(11,_),(12,_),(13,_),(14,_)] ⟨rfl,rfl,rfl,rfl,rfl,rfl,rfl,trivial⟩ ?_
  conv=>whnf
  repeat' first|((with_reducible first|apply XBr.tt|refine XBr.y1 fun h=>?_|refine XBr.n1 fun h=>?_|refine XBr.beq (fun h=>?_) fun h=>?_) <;> conv=>whnf)|((first|refine zb.ret hsa ?_|refine zb.ret zA ?_|refine XEqA.mk ⟨[_,_],[_,_],rfl,rfl,rfl,rfl,?_⟩|(with_reducible refine XBr.yes (by decide) ?_));conv=>whnf)|fail
  exact XOut.bool rfl
 have ok:=zO.1 h0
 have hL:=za0 ok hws
 have hmd:=fMade_ok (ownS s) hbo (zO.1 (by rw [<- e.err];exact h0))
 rw [<- e.wrT] at hmd
 have hrm:=vr s hb ok (by omega)
 have hst:=wc s hb p m l
 have hrows:=wrT_rows ok
 have hTl : (wrT s).length <= 5:=by unfold wrT;rw [gA];have:=ok.p2;omega
 rw [h0] at hck
 by_cases h1 : sttE s p m l = 0
 rotate_left
 ·have hwo:=zaD (ownS s) hbo p m l (by rw [<- e.sttE];exact h1)
  have hru:=fG (ownS s) hbo p m l (by rw [<- e.sttE];exact h1)
  rw [<- e.sttE] at hwo hru
  generalize sttE s p m l = v at h1 hst hwo hru
  refine Comp.body (T:=tab) (res:=[.tmp 4]) za [] Tryz.func11 rfl (by kernel_rfl) Tryz.ntmps11 rfl (by simp only [List.length_cons,List.length_nil];decide) (by simp only [lowL,AV.low,snL,xL];rfl) ?_;conv=>whnf
  repeat' first|((first|(with_reducible apply XBr.ff)|(first|refine zb.ret hgr ?_|refine zb.ret hwd ?_));conv=>whnf)|fail
  refine Walk.place (Walk.place (Walk.place ?_))
  apply Walk.drawX za zd [] [5,6,7,8,9,10] (fun fl=>match fl with
   | [a,b,c,x,y,z]=>[(bif a then .cells (bif x then snC (ownS s) else rsZ') else .free),(bif b then .cells (bif y then rsC s else rsZ') else .free),(bif c then .cells (bif z then [.int .i64 p,.int .i64 m,.int .i64 l] else [.int .i64 0,.int .i64 0,.int .i64 0]) else .free)]
   | _=>[]) [_,_,_,_,_,.ptr 0 0,.ptr 1 0,.ptr 2 0,_,_,_] (by kernel_rfl) rfl
  ·skip
   repeat' first|((with_reducible first|apply Chk.go|apply ChkA.go);conv=>whnf)|(with_reducible first|apply XAnd.mk|exact trivial)|(exact zg.mk rfl rfl)|((first|refine zb.ret how ?_|refine zb.ret hth ?_);conv=>whnf)|(first|((refine zt.at 0 rfl ?_);(conv=>whnf);exact zg.mk rfl rfl)|((refine zt.at 1 rfl ?_);(conv=>whnf);exact zg.mk rfl rfl)|((refine zt.at 2 rfl ?_);(conv=>whnf);exact zg.mk rfl rfl))|fail
  ·skip
   repeat' first|((with_reducible first|apply Chk.go|apply ChkF.go|apply ChkB.go);conv=>whnf)|(with_reducible first|apply XAnd.mk|exact trivial)|(exact zg.mk rfl rfl)|((first|refine zb.ret how ?_|refine zb.ret hth ?_);conv=>whnf)|(first|((refine zt.at 0 rfl ?_);(conv=>whnf);exact zg.mk rfl rfl)|((refine zt.at 1 rfl ?_);(conv=>whnf);exact zg.mk rfl rfl)|((refine zt.at 2 rfl ?_);(conv=>whnf);exact zg.mk rfl rfl))|fail
  conv=>whnf
  repeat' first|((with_reducible first|apply XBr.ff|refine XBr.y2 fun h=>?_|refine XBr.n2 fun h=>?_|refine XBr.bne (fun h=>?_) fun h=>?_) <;> conv=>whnf)|((first|refine zb.ret hck ?_|refine zb.ret hmd ?_|refine zb.ret hwo ?_|refine zb.ret hru ?_|refine zb.ret hrm ?_);conv=>whnf)|fail
  refine Walk.loopK za [] [(2,_),(3,_),(5,_),(6,_),(7,_),(9,_),(11,_),(12,_),(13,_),(14,_),(15,_),(99,_),(100,_)] ⟨rfl,rfl,rfl,rfl,rfl,rfl,rfl,rfl,rfl,rfl,rfl,rfl,rfl,trivial⟩ (fun k : Nat=>k <= (wrT s).length) (fun k=>[(101,natA k)]) (fun _=>[.cells (snC (ownS s)),.cells (rsC s),.cells [.int .i64 p,.int .i64 m,.int .i64 l],.cells [.int .i64 0,.int .i64 0]]) (fun k=>(wrT s).length - k) 0 (Nat.zero_le _) rfl ⟨rfl,trivial⟩ ?_
  intro k hk
  conv=>whnf
  by_cases hlt : k < (wrT s).length
  ·have heq:=hrows k hlt
   have eT : (((wrT s).map rsT).length : Int) = (wrT s).length:=by rw [List.length_map]
   repeat' first|((with_reducible first|apply XBr.tt|refine XBr.y fun h=>?_|refine XBr.n fun h=>?_|refine XBr.dec (fun h=>?_) fun h=>?_|refine XInt.a ?_) <;> conv=>whnf) | with_reducible apply XBr.not|((first|refine XIx.a ?_|refine zb.ret heq ?_);conv=>whnf)|fail
   exact zj.go (k + 1) (by omega) (by omega) rfl ⟨rfl,rfl,rfl,rfl,rfl,rfl,rfl,rfl,rfl,rfl,rfl,rfl,rfl,rfl,trivial⟩
  obtain rfl : k = (wrT s).length:=by omega
  have eT : (((wrT s).map rsT).length : Int) = (wrT s).length:=by rw [List.length_map]
  repeat' first|((with_reducible first|refine XBr.y fun h=>?_|refine XBr.n fun h=>?_|refine XBr.dec (fun h=>?_) fun h=>?_|refine XBr.y2 fun h=>?_|refine XBr.n2 fun h=>?_|refine XBr.bne (fun h=>?_) fun h=>?_) <;> conv=>whnf)|((refine zb.ret hst ?_);conv=>whnf)|fail
  refine Walk.norm za [] [(2,_),(5,_),(8,_),(11,_),(12,_),(13,_),(14,_)] ⟨rfl,rfl,rfl,rfl,rfl,rfl,rfl,trivial⟩ ?_
  conv=>whnf
  repeat' first|((with_reducible first|apply XBr.tt|refine XBr.y1 fun h=>?_|refine XBr.n1 fun h=>?_|refine XBr.beq (fun h=>?_) fun h=>?_) <;> conv=>whnf)|((first|refine zb.ret hsa ?_|refine zb.ret zA ?_|refine XEqA.mk ⟨[_,_],[_,_],rfl,rfl,rfl,rfl,?_⟩|(with_reducible refine XBr.yes (by decide) ?_));conv=>whnf)|fail
  exact XOut.bool rfl
 have hwo:=fWorth_ok (ownS s) hbo p m l (by rw [<- e.sttE];exact h1)
 have hru:=zc6 (ownS s) hbo p m l (by rw [<- e.sttE];exact h1)
 rw [<- e.worth] at hwo
 rw [<- e.rule] at hru
 obtain ⟨-,g1,g2,g3,g4⟩:=yy.1 h1
 have hx:=vL h1
 have hv:=st_vld h1
 rw [h1] at hst
 obtain ⟨pn,rfl⟩ : ∃ pn : Nat,p = pn:=⟨p.toNat,by omega⟩
 obtain ⟨mn,rfl⟩ : ∃ mn : Nat,m = mn:=⟨m.toNat,by omega⟩
 obtain ⟨ln,rfl⟩ : ∃ ln : Nat,l = ln:=⟨l.toNat,by omega⟩
 have hxe : stN (pn : Int) (mn : Int) (ln : Int) = ⟨pn,mn,ln⟩:=rfl
 rw [hxe] at hx hv hwo hru
 have hxl : ln <= allN s:=hv.2.2
 have hT:=wrT_ok ok (by omega)
 obtain ⟨t1,t2,t3,-,-⟩:=hT.at hv
 dsimp only at t1 t2 t3
 have hwv : zi s ⟨pn,mn,ln⟩ = (((wrT s).getD pn default).2.getD mn default).2.getD ln default:=(zbZ ok hv).symm
 have hrs:=fD s hb ok ⟨pn,mn,ln⟩ hx hxl
 have hgv : ∀ t ∈ zT s ⟨pn,mn,ln⟩,Comp Tryz.prog 91 [rsA s,.sl false ((wrT s).map rsT),staA ⟨pn,mn,ln⟩,sgA t] (.int .i64 (zP s (zi s) ⟨pn,mn,ln⟩ t)):=fun t ht=>by
  have hne : (!(zm s ⟨pn,mn,ln⟩ t).isEmpty) = true:=(List.mem_filter.1 ht).2
  rw [zcz (f:=zi s) (g:=tbN (wrT s)) fun y hy=>(zbZ ok (yf ok hy)).symm]
  cases ha : zm s ⟨pn,mn,ln⟩ t with
  | nil=>rw [ha] at hne;cases hne
  | cons y0 l0=>exact zcl s hb ok false _ hT _ hx hxl t y0 l0 ha
 have hA:=fun h h2=>rule_fst (s:=s) (x:=⟨pn,mn,ln⟩) h h2
 have hB:=fun h=>rule_no (s:=s) (x:=⟨pn,mn,ln⟩) h
 have hnx:=fun L t=>fstR_next s ⟨pn,mn,ln⟩ L t
 have hsl : (zT s ⟨pn,mn,ln⟩).length <= 55:=by
  have hwl : (waysL s pn).length <= 55:=by
   have h:=yo s pn s.places.toNat
   have p2:=ok.p2;have w1:=ok.w1
   have h2 : s.places.toNat * (1 + s.ways.length) <= 5 * 11:=Nat.mul_le_mul (by omega) (by omega)
   show (yc s pn s.places.toNat).length <= 55
   omega
  exact Nat.le_trans (List.length_filter_le _ _) hwl
 have e2 : ((((wrT s).getD pn default).2.map rwA).length : Int) = ((wrT s).getD pn default).2.length:=by rw [List.length_map]
 have e3 : ((ints (((wrT s).getD pn default).2.getD mn default).2).length : Int) = (((wrT s).getD pn default).2.getD mn default).2.length:=by rw [zK]
 rw [hwv] at hwo hA hB hnx
 dsimp only at hA hB
 generalize kZ s ⟨pn,mn,ln⟩ = rr at hru hA hB
 obtain ⟨ra,hra⟩ : ∃ ra,ra = (rr.getD (0,0)).1:=⟨_,rfl⟩
 obtain ⟨rb,hrb⟩ : ∃ rb,rb = (rr.getD (0,0)).2:=⟨_,rfl⟩
 obtain ⟨w14,hw4⟩ : ∃ w14,w14 = erO rr:=⟨_,rfl⟩
 have hru' : Comp Tryz.prog 14 [snA (ownS s),xA pn mn ln] (.tup [.agg [.int .i64 ra,.int .i64 rb],.int .i64 w14]):=by rw [hra,hrb,hw4];exact hru
 clear hru
 by_cases hc : 0 <= (((wrT s).getD pn default).2.getD mn default).2.getD ln default /\ ((pn : Int) ≠ s.home \/ 0 < (((wrT s).getD pn default).2.getD mn default).2.getD ln default)
 rotate_left
 ·obtain rfl:=hB (by omega)
  have hra' : ra = 0:=hra
  have hrb' : rb = 0:=hrb
  subst hra' hrb'
  have hw6 : w14 = 6:=hw4
  subst hw6
  by_cases hc1 : 0 <= (((wrT s).getD pn default).2.getD mn default).2.getD ln default
  all_goals
   refine Comp.body (T:=tab) (res:=[.tmp 4]) za [] Tryz.func11 rfl (by kernel_rfl) Tryz.ntmps11 rfl (by simp only [List.length_cons,List.length_nil];decide) (by simp only [lowL,AV.low,snL,xL];rfl) ?_;conv=>whnf
   repeat' first|((first|(with_reducible apply XBr.ff)|(first|refine zb.ret hgr ?_|refine zb.ret hwd ?_));conv=>whnf)|fail
   refine Walk.place (Walk.place (Walk.place ?_))
   apply Walk.drawX za zd [] [5,6,7,8,9,10] (fun fl=>match fl with
    | [a,b,c,x,y,z]=>[(bif a then .cells (bif x then snC (ownS s) else rsZ') else .free),(bif b then .cells (bif y then rsC s else rsZ') else .free),(bif c then .cells (bif z then [natA pn,natA mn,natA ln] else [.int .i64 0,.int .i64 0,.int .i64 0]) else .free)]
    | _=>[]) [_,_,_,_,_,.ptr 0 0,.ptr 1 0,.ptr 2 0,_,_,_] (by kernel_rfl) rfl
   ·skip
    repeat' first|((with_reducible first|apply Chk.go|apply ChkA.go);conv=>whnf)|(with_reducible first|apply XAnd.mk|exact trivial)|(exact zg.mk rfl rfl)|((first|refine zb.ret how ?_|refine zb.ret hth ?_);conv=>whnf)|(first|((refine zt.at 0 rfl ?_);(conv=>whnf);exact zg.mk rfl rfl)|((refine zt.at 1 rfl ?_);(conv=>whnf);exact zg.mk rfl rfl)|((refine zt.at 2 rfl ?_);(conv=>whnf);exact zg.mk rfl rfl))|fail
   ·skip
    repeat' first|((with_reducible first|apply Chk.go|apply ChkF.go|apply ChkB.go);conv=>whnf)|(with_reducible first|apply XAnd.mk|exact trivial)|(exact zg.mk rfl rfl)|((first|refine zb.ret how ?_|refine zb.ret hth ?_);conv=>whnf)|(first|((refine zt.at 0 rfl ?_);(conv=>whnf);exact zg.mk rfl rfl)|((refine zt.at 1 rfl ?_);(conv=>whnf);exact zg.mk rfl rfl)|((refine zt.at 2 rfl ?_);(conv=>whnf);exact zg.mk rfl rfl))|fail
   conv=>whnf
   repeat' first|((with_reducible first|apply XBr.ff|refine XBr.y2 fun h=>?_|refine XBr.n2 fun h=>?_|refine XBr.bne (fun h=>?_) fun h=>?_) <;> conv=>whnf)|((first|refine zb.ret hck ?_|refine zb.ret hmd ?_|refine zb.ret hwo ?_|refine zb.ret hru' ?_|refine zb.ret hrm ?_);conv=>whnf)|fail
   refine Walk.loopK za [] [(2,_),(3,_),(5,_),(6,_),(7,_),(9,_),(11,_),(12,_),(13,_),(14,_),(15,_),(99,_),(100,_)] ⟨rfl,rfl,rfl,rfl,rfl,rfl,rfl,rfl,rfl,rfl,rfl,rfl,rfl,trivial⟩ (fun k : Nat=>k <= (wrT s).length) (fun k=>[(101,natA k)]) (fun _=>[.cells (snC (ownS s)),.cells (rsC s),.cells [natA pn,natA mn,natA ln],.cells [.int .i64 0,.int .i64 0]]) (fun k=>(wrT s).length - k) 0 (Nat.zero_le _) rfl ⟨rfl,trivial⟩ ?_
   intro k hk
   conv=>whnf
   by_cases hlt : k < (wrT s).length
   ·have heq:=hrows k hlt
    have eT : (((wrT s).map rsT).length : Int) = (wrT s).length:=by rw [List.length_map]
    repeat' first|((with_reducible first|apply XBr.tt|refine XBr.y fun h=>?_|refine XBr.n fun h=>?_|refine XBr.dec (fun h=>?_) fun h=>?_|refine XInt.a ?_) <;> conv=>whnf) | with_reducible apply XBr.not|((first|refine XIx.a ?_|refine zb.ret heq ?_);conv=>whnf)|fail
    exact zj.go (k + 1) (by omega) (by omega) rfl ⟨rfl,rfl,rfl,rfl,rfl,rfl,rfl,rfl,rfl,rfl,rfl,rfl,rfl,rfl,trivial⟩
   obtain rfl : k = (wrT s).length:=by omega
   have eT : (((wrT s).map rsT).length : Int) = (wrT s).length:=by rw [List.length_map]
   repeat' first|((with_reducible first|apply XBr.tt|apply XBr.ff|refine XBr.y fun h=>?_|refine XBr.n fun h=>?_|refine XBr.dec (fun h=>?_) fun h=>?_|refine XBr.y1 fun h=>?_|refine XBr.n1 fun h=>?_|refine XBr.beq (fun h=>?_) fun h=>?_|refine XBr.y2 fun h=>?_|refine XBr.n2 fun h=>?_|refine XBr.bne (fun h=>?_) fun h=>?_|apply Chk.go|apply ChkA.go|apply ChkF.go|apply ChkB.go|apply zq.mk) <;> conv=>whnf)|(refine XIx.a ?_;conv=>whnf)|(with_reducible first|apply XAnd.mk|exact trivial)|(exact zg.mk rfl rfl)|(apply Walk.drawN (id:=24) za zd [] [] (hsU _) [_,_,_,_,_,_,_,_,_,_,_,_,_,_] (by kernel_rfl) rfl)|((refine zb.ret hst ?_);conv=>whnf)|fail
   repeat' first|((first|(with_reducible apply XBr.tt)|(first|refine zb.ret hsa ?_|refine zb.ret zA ?_|refine XEqA.mk ⟨[_,_],[_,_],rfl,rfl,rfl,rfl,?_⟩|(with_reducible refine XBr.yes (by decide) ?_)));conv=>whnf)|fail
   exact XOut.bool rfl
 have hA:=hA hc.1 hc.2
 generalize hW : zT s ⟨pn,mn,ln⟩ = W at hrs hgv hA hsl
 have eW : ((W.map sgA).length : Int) = W.length:=by rw [List.length_map]
 refine Comp.body (T:=tab) (res:=[.tmp 4]) za [] Tryz.func11 rfl (by kernel_rfl) Tryz.ntmps11 rfl (by simp only [List.length_cons,List.length_nil];decide) (by simp only [lowL,AV.low,snL,xL];rfl) ?_;conv=>whnf
 repeat' first|((first|(with_reducible apply XBr.ff)|(first|refine zb.ret hgr ?_|refine zb.ret hwd ?_));conv=>whnf)|fail
 refine Walk.place (Walk.place (Walk.place ?_))
 apply Walk.drawX za zd [] [5,6,7,8,9,10] (fun fl=>match fl with
  | [a,b,c,x,y,z]=>[(bif a then .cells (bif x then snC (ownS s) else rsZ') else .free),(bif b then .cells (bif y then rsC s else rsZ') else .free),(bif c then .cells (bif z then [natA pn,natA mn,natA ln] else [.int .i64 0,.int .i64 0,.int .i64 0]) else .free)]
  | _=>[]) [_,_,_,_,_,.ptr 0 0,.ptr 1 0,.ptr 2 0,_,_,_] (by kernel_rfl) rfl
 ·skip
  repeat' first|((with_reducible first|apply Chk.go|apply ChkA.go);conv=>whnf)|(with_reducible first|apply XAnd.mk|exact trivial)|(exact zg.mk rfl rfl)|((first|refine zb.ret how ?_|refine zb.ret hth ?_);conv=>whnf)|(first|((refine zt.at 0 rfl ?_);(conv=>whnf);exact zg.mk rfl rfl)|((refine zt.at 1 rfl ?_);(conv=>whnf);exact zg.mk rfl rfl)|((refine zt.at 2 rfl ?_);(conv=>whnf);exact zg.mk rfl rfl))|fail
 ·skip
  repeat' first|((with_reducible first|apply Chk.go|apply ChkF.go|apply ChkB.go);conv=>whnf)|(with_reducible first|apply XAnd.mk|exact trivial)|(exact zg.mk rfl rfl)|((first|refine zb.ret how ?_|refine zb.ret hth ?_);conv=>whnf)|(first|((refine zt.at 0 rfl ?_);(conv=>whnf);exact zg.mk rfl rfl)|((refine zt.at 1 rfl ?_);(conv=>whnf);exact zg.mk rfl rfl)|((refine zt.at 2 rfl ?_);(conv=>whnf);exact zg.mk rfl rfl))|fail
 conv=>whnf
 repeat' first|((with_reducible first|apply XBr.ff|refine XBr.y2 fun h=>?_|refine XBr.n2 fun h=>?_|refine XBr.bne (fun h=>?_) fun h=>?_) <;> conv=>whnf)|((first|refine zb.ret hck ?_|refine zb.ret hmd ?_|refine zb.ret hwo ?_|refine zb.ret hru' ?_|refine zb.ret hrm ?_);conv=>whnf)|fail
 refine Walk.loopK za [] [(2,_),(3,_),(5,_),(6,_),(7,_),(9,_),(11,_),(12,_),(13,_),(14,_),(15,_),(99,_),(100,_)] ⟨rfl,rfl,rfl,rfl,rfl,rfl,rfl,rfl,rfl,rfl,rfl,rfl,rfl,trivial⟩ (fun k : Nat=>k <= (wrT s).length) (fun k=>[(101,natA k)]) (fun _=>[.cells (snC (ownS s)),.cells (rsC s),.cells [natA pn,natA mn,natA ln],.cells [.int .i64 ra,.int .i64 rb]]) (fun k=>(wrT s).length - k) 0 (Nat.zero_le _) rfl ⟨rfl,trivial⟩ ?_
 intro k hk
 conv=>whnf
 by_cases hlt : k < (wrT s).length
 ·have heq:=hrows k hlt
  have eT : (((wrT s).map rsT).length : Int) = (wrT s).length:=by rw [List.length_map]
  repeat' first|((with_reducible first|apply XBr.tt|refine XBr.y fun h=>?_|refine XBr.n fun h=>?_|refine XBr.dec (fun h=>?_) fun h=>?_|refine XInt.a ?_) <;> conv=>whnf) | with_reducible apply XBr.not|((first|refine XIx.a ?_|refine zb.ret heq ?_);conv=>whnf)|fail
  exact zj.go (k + 1) (by omega) (by omega) rfl ⟨rfl,rfl,rfl,rfl,rfl,rfl,rfl,rfl,rfl,rfl,rfl,rfl,rfl,rfl,trivial⟩
 obtain rfl : k = (wrT s).length:=by omega
 have eT : (((wrT s).map rsT).length : Int) = (wrT s).length:=by rw [List.length_map]
 repeat' first|((with_reducible first|apply XBr.tt|apply XBr.ff|refine XBr.y fun h=>?_|refine XBr.n fun h=>?_|refine XBr.dec (fun h=>?_) fun h=>?_|refine XBr.y2 fun h=>?_|refine XBr.n2 fun h=>?_|refine XBr.bne (fun h=>?_) fun h=>?_|apply Chk.go|apply ChkA.go|apply ChkF.go|apply ChkB.go|apply zq.mk) <;> conv=>whnf)|(refine XIx.a ?_;conv=>whnf)|(with_reducible first|apply XAnd.mk|exact trivial)|(exact zg.mk rfl rfl)|(apply Walk.drawN (id:=24) za zd [] [] (hsU _) [_,_,_,_,_,_,_,_,_,_,_,_,_,_] (by kernel_rfl) rfl)|((refine zb.ret hst ?_);conv=>whnf)|fail
 all_goals
  refine zb.ret hrs ?_
  conv=>whnf
  skip
  refine Walk.loopGK za [] [(2,_),(5,_),(6,_),(7,_),(13,_),(14,_),(15,_),(18,_),(19,_),(179,_),(180,_)] ⟨rfl,rfl,rfl,rfl,rfl,rfl,rfl,rfl,rfl,rfl,rfl,trivial⟩ (fun k : Nat=>k <= W.length) (fun k=>[(8,.int .i64 (erO (fstR s ⟨pn,mn,ln⟩ (W.take k)))),(181,natA k)]) (fun k=>[.cells (snC (ownS s)),.cells (rsC s),.cells [natA pn,natA mn,natA ln],.cells [.int .i64 ra,.int .i64 rb],.cells [.int .i64 ((fstR s ⟨pn,mn,ln⟩ (W.take k)).getD (0,0)).1,.int .i64 ((fstR s ⟨pn,mn,ln⟩ (W.take k)).getD (0,0)).2]]) (fun k=>W.length - k) 0 (Nat.zero_le _) rfl ⟨rfl,rfl,trivial⟩ ?_ (fun _ _=>(show (5 : Nat) <= 5 from Nat.le_refl 5)) ?_
  ·intro k _
   refine ⟨fun z hz=>?_,fun z hz=>?_⟩
   ·simp only [List.mem_cons,List.not_mem_nil,or_false] at hz
    rcases hz with rfl | rfl | rfl | rfl | rfl <;> first | rfl|exact snCL _|exact rsCL _
   ·simp only [List.cons_append,List.nil_append,List.mem_cons,List.not_mem_nil,or_false] at hz
    rcases hz with rfl | rfl | rfl | rfl | rfl | rfl | rfl | rfl | rfl | rfl | rfl | rfl | rfl <;> first | rfl|exact snCL _|exact zZ _|exact zN _
  intro k hk
  have hnk : k < W.length -> fstR s ⟨pn,mn,ln⟩ (W.take (k + 1)) = if (fstR s ⟨pn,mn,ln⟩ (W.take k)).isSome = true then fstR s ⟨pn,mn,ln⟩ (W.take k) else if zP s (zi s) ⟨pn,mn,ln⟩ (W.getD k default) = (((wrT s).getD pn default).2.getD mn default).2.getD ln default then some (W.getD k default) else none:=fun h=>by rw [zD h];exact hnx _ _
  have hall : k = W.length -> fstR s ⟨pn,mn,ln⟩ (W.take k) = rr:=fun h=>by rw [h,List.take_length];exact hA.symm
  generalize fstR s ⟨pn,mn,ln⟩ (W.take k) = fo at hnk hall
  obtain ⟨w8,hw8⟩ : ∃ w8,w8 = erO fo:=⟨_,rfl⟩
  rw [<- hw8]
  conv=>whnf
  by_cases hlt2 : k < W.length
  ·have hnk:=hnk hlt2
   have hgt:=hgv _ (zk (d:=default) hlt2)
   generalize zP s (zi s) ⟨pn,mn,ln⟩ (W.getD k default) = gz at hgt hnk
   cases fo with
   | some y =>
     rw [if_pos (show (some y).isSome = true from rfl)] at hnk
     have hw0 : w8 = 0:=hw8
     repeat' first|((with_reducible first|apply XBr.ff|refine XBr.y fun h=>?_|refine XBr.n fun h=>?_|refine XBr.dec (fun h=>?_) fun h=>?_|refine XBr.y1 fun h=>?_|refine XBr.n1 fun h=>?_|refine XBr.beq (fun h=>?_) fun h=>?_|refine XInt.a ?_) <;> conv=>whnf)|(refine XIx.a ?_;conv=>whnf)|fail
     refine zl.go (k + 1) [.cells (sgA (W.getD k default)).cells] (by omega) (by omega) ?_ ⟨rfl,rfl,rfl,rfl,rfl,rfl,rfl,rfl,rfl,rfl,rfl,(by rw [hnk,hw8];rfl),rfl,trivial⟩
     rw [hnk];rfl
   | none =>
     rw [if_neg (show ¬ (none : Option (Int × Int)).isSome = true from fun h=>by cases h)] at hnk
     have hw0 : w8 = 6:=hw8
     by_cases hgz : gz = (((wrT s).getD pn default).2.getD mn default).2.getD ln default
     ·rw [if_pos hgz] at hnk
      repeat' first|((with_reducible first|apply XBr.tt|refine XBr.y fun h=>?_|refine XBr.n fun h=>?_|refine XBr.dec (fun h=>?_) fun h=>?_|refine XBr.y1 fun h=>?_|refine XBr.n1 fun h=>?_|refine XBr.beq (fun h=>?_) fun h=>?_|refine XInt.a ?_) <;> conv=>whnf)|((first|refine XIx.a ?_|refine zb.ret hgt ?_);conv=>whnf)|fail
      refine zl.go (k + 1) [.cells (sgA (W.getD k default)).cells] (by omega) (by omega) ?_ ⟨rfl,rfl,rfl,rfl,rfl,rfl,rfl,rfl,rfl,rfl,rfl,(by rw [hnk];rfl),rfl,trivial⟩
      rw [hnk];rfl
     ·rw [if_neg hgz] at hnk
      repeat' first|((with_reducible first|apply XBr.tt|refine XBr.y fun h=>?_|refine XBr.n fun h=>?_|refine XBr.dec (fun h=>?_) fun h=>?_|refine XBr.y1 fun h=>?_|refine XBr.n1 fun h=>?_|refine XBr.beq (fun h=>?_) fun h=>?_|refine XInt.a ?_) <;> conv=>whnf)|((first|refine XIx.a ?_|refine zb.ret hgt ?_);conv=>whnf)|fail
      refine zl.go (k + 1) [.cells (sgA (W.getD k default)).cells] (by omega) (by omega) ?_ ⟨rfl,rfl,rfl,rfl,rfl,rfl,rfl,rfl,rfl,rfl,rfl,(by rw [hnk,hw8];rfl),rfl,trivial⟩
      rw [hnk];rfl
  obtain rfl : k = W.length:=by omega
  obtain rfl:=hall rfl
  rw [<- hra,<- hrb]
  have hw14 : w8 = w14:=hw8.trans hw4.symm
  subst hw14
  repeat' first|((with_reducible first|apply XBr.tt|refine XBr.y fun h=>?_|refine XBr.n fun h=>?_|refine XBr.dec (fun h=>?_) fun h=>?_|refine XBr.y1 fun h=>?_|refine XBr.n1 fun h=>?_|refine XBr.beq (fun h=>?_) fun h=>?_) <;> conv=>whnf)|((first|refine zb.ret hsa ?_|refine zb.ret zA ?_|refine XEqA.mk ⟨[_,_],[_,_],rfl,rfl,rfl,rfl,?_⟩|(with_reducible refine XBr.yes (by simp) ?_));conv=>whnf)|fail
  exact XOut.bool rfl
end GA
end
section
namespace GA
open Go Go.RowKit Go.Proofs
theorem zcu (s : Sn) (ok : SnOk s) (m : Nat) (hm : (m : Int) <= s.last) : Comp Tryz.prog 262 [zF s,wsA s,natA m] (.int .i64 (zR s m)):=by
 have h1:=ok.h1;have hal:=ym ok;have l2:=ok.l2
 have hac:=vb s ok
 obtain ⟨h0,hh0⟩ : ∃ h0 : Nat,s.home = h0:=⟨s.home.toNat,by omega⟩
 have hpa:=fi s ok h0 (allN s) (by omega) (by omega)
 have hle:=fun l (h : l ∈ zC s h0 (allN s))=>jI ok h
 have hlen:=kI s h0 (allN s)
 have hsd : zR s m = (zC s h0 (allN s)).foldl (fun n l=>min n (zi s ⟨h0,m,l⟩)) 60:=by unfold zR;rw [hh0];rfl
 rw [hsd]
 generalize zC s h0 (allN s) = L at hpa hle hlen
 have hpa' : Comp Tryz.prog 238 [zF s,.int .i64 s.home,natA (allN s)] (nsA L):=by rw [hh0];exact hpa
 have e1 : ((L.map natA).length : Int) = L.length:=by rw [List.length_map]
 refine Comp.body (T:=tab) (res:=[.tmp 6]) za [] Tryz.func262 rfl (by kernel_rfl) Tryz.ntmps262 rfl (by simp only [List.length_cons,List.length_nil];decide) (by simp only [lowL,AV.low,zG,zaE,natA];rfl) ?_;conv=>whnf
 repeat' first|((with_reducible first|apply Chk.go|apply ChkA.go|apply ChkF.go|apply ChkB.go|apply zq.mk);conv=>whnf)|(with_reducible first|apply XAnd.mk|exact trivial)|(exact zg.mk rfl rfl)|(apply Walk.drawN (id:=2) za zd [] [] (hsU _) [_,_,_,_,_,_,_,_,_,_,_] (by kernel_rfl) rfl)|((first|refine zb.ret hac ?_|refine zb.ret hpa' ?_);conv=>whnf)|fail
 refine Walk.loopK za [] [(0,_),(1,_),(2,_),(18,_),(19,_)] ⟨rfl,rfl,rfl,rfl,rfl,trivial⟩ (fun k : Nat=>k <= L.length) (fun k=>[(7,.int .i64 ((L.take k).foldl (fun n l=>min n (zi s ⟨h0,m,l⟩)) 60)),(20,natA k)]) (fun _=>[]) (fun k=>L.length - k) 0 (Nat.zero_le _) rfl ⟨rfl,rfl,trivial⟩ ?_
 intro k hk
 have hnx : k < L.length -> (L.take (k + 1)).foldl (fun n l=>min n (zi s ⟨h0,m,l⟩)) 60 = min ((L.take k).foldl (fun n l=>min n (zi s ⟨h0,m,l⟩)) 60) (zi s ⟨h0,m,L.getD k default⟩):=fun h=>by rw [zD h,List.foldl_append];rfl
 have hend : k = L.length -> (L.take k).foldl (fun n l=>min n (zi s ⟨h0,m,l⟩)) 60 = L.foldl (fun n l=>min n (zi s ⟨h0,m,l⟩)) 60:=fun h=>by rw [h,List.take_length]
 generalize (L.take k).foldl (fun n l=>min n (zi s ⟨h0,m,l⟩)) 60 = v at hnx hend
 conv=>whnf
 by_cases hlt : k < L.length
 ·have hnx:=hnx hlt
  have hof:=wof_c s ok ⟨h0,m,L.getD k default⟩ ⟨by show (h0 : Int) < s.places;omega,hm,hle _ (zk hlt)⟩
  have hst : staA ⟨h0,m,L.getD k default⟩ = .agg [.int .i64 s.home,natA m,natA (L.getD k default)]:=by rw [hh0];rfl
  rw [hst] at hof
  generalize zi s ⟨h0,m,L.getD k default⟩ = w at hof hnx
  have hls:=vT v false [w] (by simp)
  repeat' first|((with_reducible first|refine XBr.y fun h=>?_|refine XBr.n fun h=>?_|refine XBr.dec (fun h=>?_) fun h=>?_|refine XInt.a ?_) <;> conv=>whnf)|((first|refine zh.a ?_|refine XIx.a ?_|refine zb.ret hof ?_|refine zb.ret hls ?_);conv=>whnf)|fail
  exact zj.go (k + 1) (by omega) (by omega) rfl ⟨rfl,rfl,rfl,rfl,rfl,(by rw [hnx];rfl),rfl,trivial⟩
 obtain rfl : k = L.length:=by omega
 repeat' ((with_reducible first|refine XBr.y fun h=>?_|refine XBr.n fun h=>?_|refine XBr.dec (fun h=>?_) fun h=>?_) <;> conv=>whnf)
 exact XOut.int (hend rfl)
def begE (s : Sn) (m : Int) : Int:=if snE s ≠ 0 then snE s else if inZ m 0 s.last = false then 3 else 0
theorem vS {s : Sn} {m : Int} : begE s m = 0 ↔ SnOk s /\ 0 <= m /\ m <= s.last:=by
 unfold begE
 by_cases h : snE s = 0
 ·rw [if_neg (by simp [h]),zO.symm]
  by_cases h2 : inZ m 0 s.last = false
  ·rw [if_pos h2]
   simp only [inZ,Bool.and_eq_false_iff,decide_eq_false_iff_not] at h2
   constructor
   ·intro h3;cases h3
   ·rintro ⟨-,h3,h4⟩;omega
  ·rw [if_neg h2]
   have h3 : inZ m 0 s.last = true:=by simpa using h2
   rw [zr] at h3
   exact ⟨fun _=>⟨h,h3⟩,fun _=>rfl⟩
 ·rw [if_pos h,zO.symm]
  exact ⟨fun h'=>absurd h' h,fun h'=>absurd h'.1 h⟩
theorem fB (s : Sn) (hb : SnB s) (m : Int) (h : begE s m ≠ 0) : ∃ r : AV,r.low 0 = true /\ Comp Tryz.prog 261 [snA s,.int .i64 m] (.tup [r,.int .i64 (begE s m)]):=by
 by_cases h0 : snE s = 0
 ·have ok:=zO.1 h0
  have ho:=z4 s hb ok
  have hmn:=yU s m
  have hmf : inZ m 0 s.last = false:=by
   cases hi : inZ m 0 s.last with
   | false=>rfl
   | true=>refine absurd ?_ h;unfold begE;rw [if_neg (by simp [h0]),if_neg (by rw [hi];simp)]
  rw [hmf] at hmn
  have he : begE s m = 3:=by unfold begE;rw [if_neg (by simp [h0]),if_pos hmf]
  rw [he]
  refine ⟨zF s,zG s,?_⟩
  refine Comp.body (T:=tab) (res:=[.tmp 4,.tmp 5]) za [] Tryz.func261 rfl (by kernel_rfl) Tryz.ntmps261 rfl (by simp only [List.length_cons,List.length_nil];decide) (by simp only [lowL,AV.low,snL];rfl) ?_;conv=>whnf
  repeat' first|((with_reducible first|apply XBr.tt|apply XBr.ff|refine XBr.y1 fun h=>?_|refine XBr.n1 fun h=>?_|refine XBr.beq (fun h=>?_) fun h=>?_) <;> conv=>whnf) | with_reducible apply XBr.not|((first|refine zb.ret ho ?_|refine zb.ret hmn ?_);conv=>whnf)|fail
  exact ⟨.low (by show ((zF s).low 0 && true) = true;rw [zG];rfl)⟩
 ·have ho:=yp s hb h0
  have he : begE s m = snE s:=by unfold begE;rw [if_pos h0]
  rw [he]
  generalize snE s = e at h0 ho
  refine ⟨.nilp,rfl,?_⟩
  refine Comp.body (T:=tab) (res:=[.tmp 4,.tmp 5]) za [] Tryz.func261 rfl (by kernel_rfl) Tryz.ntmps261 rfl (by simp only [List.length_cons,List.length_nil];decide) (by simp only [lowL,AV.low,snL];rfl) ?_;conv=>whnf
  repeat' first|((with_reducible first|apply XBr.ff|refine XBr.y1 fun h=>?_|refine XBr.n1 fun h=>?_|refine XBr.beq (fun h=>?_) fun h=>?_) <;> conv=>whnf)|((refine zb.ret ho ?_);conv=>whnf)|fail
  exact ⟨.low rfl⟩
theorem gS (s : Sn) (hb : SnB s) (m : Int) (h : begE s m = 0) : Comp Tryz.prog 261 [snA s,.int .i64 m] (.tup [zF s,.int .i64 0]):=by
 obtain ⟨ok,h1⟩:=vS.1 h
 have ho:=z4 s hb ok
 have hmn:=yU s m
 rw [zr.2 h1] at hmn
 refine Comp.body (T:=tab) (res:=[.tmp 4,.tmp 5]) za [] Tryz.func261 rfl (by kernel_rfl) Tryz.ntmps261 rfl (by simp only [List.length_cons,List.length_nil];decide) (by simp only [lowL,AV.low,snL];rfl) ?_;conv=>whnf
 repeat' first|((with_reducible first|apply XBr.tt|refine XBr.y1 fun h=>?_|refine XBr.n1 fun h=>?_|refine XBr.beq (fun h=>?_) fun h=>?_) <;> conv=>whnf) | with_reducible apply XBr.not|((first|refine zb.ret ho ?_|refine zb.ret hmn ?_);conv=>whnf)|fail
 exact ⟨.low (by show ((zF s).low 0 && true) = true;rw [zG];rfl)⟩
theorem zaH (s : Sn) (hb : SnB s) (m : Int) (h : begE s m ≠ 0) : Comp Tryz.prog 97 [snA s,.int .i64 m] (.tup [.int .i64 0,.int .i64 (begE s m)]):=by
 obtain ⟨r,hr,hc⟩:=fB s hb m h
 generalize begE s m = e at h hc
 refine Comp.body (T:=tab) (res:=[.tmp 4,.tmp 5]) za [] Tryz.func97 rfl (by kernel_rfl) Tryz.ntmps97 rfl (by simp only [List.length_cons,List.length_nil];decide) (by simp only [lowL,AV.low,snL];rfl) ?_;conv=>whnf
 repeat' first|((with_reducible first|refine XBr.y2 fun h=>?_|refine XBr.n2 fun h=>?_|refine XBr.bne (fun h=>?_) fun h=>?_) <;> conv=>whnf)|((refine zb.ret hc ?_);conv=>whnf)|fail
 exact ⟨.low rfl⟩
theorem qJ (s : Sn) (hb : SnB s) (ok : SnOk s) (m : Nat) (hm : (m : Int) <= s.last) : Comp Tryz.prog 97 [snA s,natA m] (.tup [.int .i64 (zR s m),.int .i64 0]):=by
 have hc:=gS s hb m (vS.2 ⟨ok,by omega,hm⟩)
 have hw:=jG s ok
 have hs:=zcu s ok m hm
 refine Comp.body (T:=tab) (res:=[.tmp 4,.tmp 5]) za [] Tryz.func97 rfl (by kernel_rfl) Tryz.ntmps97 rfl (by simp only [List.length_cons,List.length_nil];decide) (by simp only [lowL,AV.low,snL];rfl) ?_;conv=>whnf
 repeat' first|((with_reducible first|refine XBr.y2 fun h=>?_|refine XBr.n2 fun h=>?_|refine XBr.bne (fun h=>?_) fun h=>?_) <;> conv=>whnf)|((first|refine zb.ret hc ?_|refine zb.ret hw ?_|refine zb.ret hs ?_);conv=>whnf)|fail
 exact ⟨.low rfl⟩
def bstK (s : Sn) : Nat -> Nat × Int
 | 0=>(0,-1)
 | k + 1=>if (bstK s k).2 < zR s k then (k,zR s k) else bstK s k
def bstE (s : Sn) : Nat × Int:=bstK s (s.last.toNat + 1)
theorem fBest_no (s : Sn) (hb : SnB s) (h : snE s ≠ 0) : Comp Tryz.prog 98 [snA s] (.tup [.int .i64 0,.int .i64 0,.int .i64 (snE s)]):=by
 have ho:=yp s hb h
 generalize snE s = e at h ho
 refine Comp.body (T:=tab) (res:=[.tmp 2,.tmp 3,.tmp 4]) za [] Tryz.func98 rfl (by kernel_rfl) Tryz.ntmps98 rfl (by simp only [List.length_cons,List.length_nil];decide) (by simp only [lowL,AV.low,snL];rfl) ?_;conv=>whnf
 repeat' first|((with_reducible first|refine XBr.y2 fun h=>?_|refine XBr.n2 fun h=>?_|refine XBr.bne (fun h=>?_) fun h=>?_) <;> conv=>whnf)|((refine zb.ret ho ?_);conv=>whnf)|fail
 exact ⟨.low rfl⟩
theorem fBest_ok (s : Sn) (hb : SnB s) (ok : SnOk s) : Comp Tryz.prog 98 [snA s] (.tup [natA (if (bstE s).2 = -1 then 0 else (bstE s).1),.int .i64 (if (bstE s).2 = -1 then 0 else (bstE s).2),.int .i64 (if (bstE s).2 = -1 then 6 else 0)]):=by
 have ho:=z4 s hb ok
 have hw:=jG s ok
 have l1:=ok.l1;have l2:=ok.l2
 obtain ⟨L0,hL0⟩ : ∃ L0 : Nat,s.last = L0:=⟨s.last.toNat,by omega⟩
 have hE : bstE s = bstK s (L0 + 1):=by unfold bstE;rw [hL0];rfl
 rw [hE]
 refine Comp.body (T:=tab) (res:=[.tmp 2,.tmp 3,.tmp 4]) za [] Tryz.func98 rfl (by kernel_rfl) Tryz.ntmps98 rfl (by simp only [List.length_cons,List.length_nil];decide) (by simp only [lowL,AV.low,snL];rfl) ?_;conv=>whnf
 repeat' first|((with_reducible first|refine XBr.y2 fun h=>?_|refine XBr.n2 fun h=>?_|refine XBr.bne (fun h=>?_) fun h=>?_|refine XInt.a ?_) <;> conv=>whnf)|((first|refine zb.ret ho ?_|refine zb.ret hw ?_);conv=>whnf)|fail
 refine Walk.loopK za [] [(4,_),(5,_),(6,_),(21,_)] ⟨rfl,rfl,rfl,rfl,trivial⟩ (fun k : Nat=>k <= L0 + 1) (fun k=>[(2,natA (bstK s k).1),(3,.int .i64 (bstK s k).2),(22,natA k)]) (fun _=>[]) (fun k=>L0 + 1 - k) 0 (Nat.zero_le _) rfl ⟨rfl,rfl,rfl,trivial⟩ ?_
 intro k hk
 have hnx : bstK s (k + 1) = if (bstK s k).2 < zR s k then (k,zR s k) else bstK s k:=rfl
 have hend : k = L0 + 1 -> bstK s (L0 + 1) = bstK s k:=fun h=>by rw [h]
 generalize bstK s k = b at hnx hend
 obtain ⟨a,v⟩:=b
 dsimp only at hnx ⊢
 conv=>whnf
 by_cases hlt : k < L0 + 1
 ·have hs:=zcu s ok k (by omega)
  generalize zR s k = z at hs hnx
  by_cases hz : v < z
  ·rw [if_pos hz] at hnx
   repeat' first|((with_reducible first|refine XBr.y fun h=>?_|refine XBr.n fun h=>?_|refine XBr.dec (fun h=>?_) fun h=>?_|refine XInt.a ?_) <;> conv=>whnf)|((refine zb.ret hs ?_);conv=>whnf)|fail
   exact zj.go (k + 1) (by omega) (by omega) rfl ⟨rfl,rfl,rfl,rfl,(by rw [hnx];rfl),(by rw [hnx];rfl),rfl,trivial⟩
  ·rw [if_neg hz] at hnx
   repeat' first|((with_reducible first|refine XBr.y fun h=>?_|refine XBr.n fun h=>?_|refine XBr.dec (fun h=>?_) fun h=>?_|refine XInt.a ?_) <;> conv=>whnf)|((refine zb.ret hs ?_);conv=>whnf)|fail
   exact zj.go (k + 1) (by omega) (by omega) rfl ⟨rfl,rfl,rfl,rfl,(by rw [hnx];rfl),(by rw [hnx];rfl),rfl,trivial⟩
 rw [hend (by omega)]
 by_cases hv : v = -1
 ·rw [if_pos hv,if_pos hv,if_pos hv]
  repeat' ((with_reducible first|refine XBr.y fun h=>?_|refine XBr.n fun h=>?_|refine XBr.dec (fun h=>?_) fun h=>?_|refine XBr.y1 fun h=>?_|refine XBr.n1 fun h=>?_|refine XBr.beq (fun h=>?_) fun h=>?_) <;> conv=>whnf)
  exact ⟨.low rfl⟩
 ·rw [if_neg hv,if_neg hv,if_neg hv]
  repeat' ((with_reducible first|refine XBr.y fun h=>?_|refine XBr.n fun h=>?_|refine XBr.dec (fun h=>?_) fun h=>?_|refine XBr.y1 fun h=>?_|refine XBr.n1 fun h=>?_|refine XBr.beq (fun h=>?_) fun h=>?_) <;> conv=>whnf)
  exact ⟨.low rfl⟩
end GA
end
section
namespace GA
open Go Go.RowKit Go.Proofs
def tolI (s : Sn) (p i : Nat) : List Int:=(s.looks.getD i default).2.set p (i : Int)
def tolB (s : Sn) (p i : Nat) : Blk:=.grow 3 false (ints (tolI s p i))
def tolV (s : Sn) (P i : Nat) : AV:=.gr (i + 3) P
theorem zdz (s : Sn) (p : Nat) : (tolS s p).looks.map rwA = vecF s.looks.length fun i=>.sl false (ints (tolI s p i)):=by
 show (vecF s.looks.length fun i=>tolR p i (s.looks.getD i default)).map rwA = _
 rw [yF];rfl
theorem tolI_len (s : Sn) (p i : Nat) : (tolI s p i).length = (s.looks.getD i default).2.length:=List.length_set
theorem zcW {s : Sn} {p P n : Nat} {A B C : Blk} (hn : n = s.looks.length) (hC : C = .grow 22 false (vecF n (tolV s P))) (hP : ∀ i,i < n -> (s.looks.getD i default).2.length = P) : Froz Tryz.prog (A :: B :: C :: vecF n (tolB s p)) (.gr 2 n) (.sl false ((tolS s p).looks.map rwA)):=by
 rw [zdz,<- hn]
 refine va (by show lget (A :: B :: C :: _) 2 = _;rw [hC];rfl) (by kernel_rfl) (fun _ _=>rfl) (fun _ _=>rfl) fun i hi=>?_
 refine Froz.grow (t:=3) ?_ ?_ (lowI _)
 ·show lget (vecF n (tolB s p)) i = _
  rw [kx hi];rfl
 ·rw [zK,tolI_len,hP i hi]
theorem qi.mk' {els new : List AV} {o : Nat} {k : List AV -> Prop} (els' : List AV) (e : splice els o new = els') (h : k els') : qi els o new k:=⟨by rw [e];exact h⟩
theorem lget_3 {a b c : Blk} {R : List Blk} {k : Nat} : lget (a :: b :: c :: R) (k + 3) = lget R k:=rfl
theorem set_3 {a b c x : Blk} {R : List Blk} {k : Nat} : (a :: b :: c :: R).set (k + 3) x = a :: b :: c :: R.set k x:=rfl
theorem told_c (s : Sn) (hb : SnB s) (ok : SnOk s) (p : Nat) (hp : (p : Int) < s.places) : Comp Tryz.prog 263 [snA s,natA p] (snA (tolS s p)):=by
 have t2:=ok.t2;have k1:=ok.k1;have p2:=ok.p2
 obtain ⟨P0,hP0⟩ : ∃ P0 : Nat,s.places = P0:=⟨s.places.toNat,by have:=ok.p1;omega⟩
 have hrl : ∀ i,i < s.looks.length -> (s.looks.getD i default).2.length = P0:=fun i hi=>by have:=ok.kl _ (zk (d:=default) hi);omega
 have e1 : ((s.looks.map rwA).length : Int) = s.looks.length:=by rw [List.length_map]
 refine Comp.body (T:=tab) (res:=[.cell 4 27]) za [2] Tryz.func263 rfl (by kernel_rfl) Tryz.ntmps263 rfl (by simp only [List.length_cons,List.length_nil];decide) (by simp only [lowL,AV.low,snL];rfl) ?_;conv=>whnf
 repeat' (refine zh.a ?_;conv=>whnf)
 refine Walk.loopK za [] [(1,_),(2,_),(4,_),(5,.gr 2 s.looks.length),(13,_),(14,_)] ⟨rfl,rfl,rfl,(by show some (AV.gr 2 (((s.looks.map rwA).length : Nat) : Int).toNat) = some (AV.gr 2 s.looks.length);rw [e1,Int.toNat_natCast]),rfl,rfl,trivial⟩ (fun k : Nat=>k <= s.looks.length) (fun k=>[(15,natA k)]) (fun k=>.cells (snC s) :: .cells [.int .i64 0,.int .i64 0,.int .i64 0,.int .i64 0,.sl true [],.sl true [],.sl true []] :: .grow 22 false (vecF s.looks.length fun i=>if i < k then tolV s P0 i else .sl true []) :: vecF k (tolB s p)) (fun k=>s.looks.length - k) 0 (Nat.zero_le _) ?_ ⟨rfl,trivial⟩ ?_
 ·rw [e1,Int.toNat_natCast,zB (G:=fun _=>AV.sl true []) fun i _=>if_neg (Nat.not_lt_zero i),yz,zL];rfl
 intro k hk
 have hse : ∀ v : AV,k < s.looks.length -> v = tolV s P0 k -> (vecF s.looks.length fun i=>if i < k then tolV s P0 i else AV.sl true []).set k v = vecF s.looks.length fun i=>if i < k + 1 then tolV s P0 i else .sl true []:=fun v hk hv=>by
  rw [yA]
  refine zB fun i _=>?_
  show (if i = k then v else if i < k then tolV s P0 i else AV.sl true []) = if i < k + 1 then tolV s P0 i else .sl true []
  by_cases e : i = k
  ·rw [if_pos e,if_pos (by omega),hv,e]
  ·rw [if_neg e]
   by_cases e2 : i < k
   ·rw [if_pos e2,if_pos (by omega)]
   ·rw [if_neg e2,if_neg (by omega)]
 have hel : (vecF s.looks.length fun i=>if i < k then tolV s P0 i else AV.sl true []).length = s.looks.length:=zx _ _
 have hee : k = s.looks.length -> (vecF s.looks.length fun i=>if i < k then tolV s P0 i else AV.sl true []) = vecF s.looks.length (tolV s P0):=fun h=>zB fun i hi=>if_pos (by omega)
 generalize (vecF s.looks.length fun i=>if i < k then tolV s P0 i else AV.sl true []) = els at hse hel hee
 have hRf : ∀ x ∈ vecF k (tolB s p),(match x with | .free=>true | _=>false) = false:=fun x hx=>by
  obtain ⟨j,-,rfl⟩:=yd.1 hx
  rfl
 have hRl : (vecF k (tolB s p)).length = k:=zx _ _
 have hRn : vecF k (tolB s p) ++ [tolB s p k] = vecF (k + 1) (tolB s p):=(yJ _ _).symm
 have hRe : k = s.looks.length -> ∀ A B,Froz Tryz.prog (A :: B :: .grow 22 false els :: vecF k (tolB s p)) (.gr 2 s.looks.length) (.sl false ((tolS s p).looks.map rwA)):=fun h A B=>by rw [h];exact zcW (n:=s.looks.length) rfl (by rw [hee h]) hrl
 generalize vecF k (tolB s p) = R at hRl hRn hRe hRf
 obtain ⟨A,hA⟩ : ∃ A,A = Blk.cells (snC s):=⟨_,rfl⟩
 obtain ⟨B,hB⟩ : ∃ B,B = Blk.cells [.int .i64 0,.int .i64 0,.int .i64 0,.int .i64 0,.sl true [],.sl true [],.sl true []]:=⟨_,rfl⟩
 rw [<- hA,<- hB]
 obtain ⟨H0,hH0⟩ : ∃ H0,H0 = A :: B :: Blk.grow 22 false els :: R:=⟨_,rfl⟩
 have h0l : H0.length = k + 3:=by rw [hH0];simp only [List.length_cons,hRl]
 have h00 : lget H0 0 = some (.cells (snC s)):=by rw [hH0,hA];rfl
 refine XRun.heap H0 hH0 ?_
 conv=>whnf
 by_cases hlt : k < s.looks.length
 ·have hrow:=hrl k hlt
  have hkn:=ok.kn _ (zk (d:=default) hlt)
  have htb : tolB s p k = .grow 3 false (ints ((s.looks.getD k default).2.set p (k : Int))):=rfl
  have hes : k < els.length:=by omega
  have e2 : ((ints (s.looks.getD k default).2).length : Int) = P0:=by rw [zK,hrow]
  have e4 : (((s.looks[k]?.getD default).snd.length : Nat) : Int) = P0:=by rw [<- List.getD_eq_getElem?_getD];omega
  have hN : (((ints (s.looks.getD k default).2).length : Nat) : Int).toNat = P0:=by rw [e2,Int.toNat_natCast]
  have hNl : (((ints (s.looks.getD k default).2).length : Nat) : Int).toNat = (ints (s.looks.getD k default).2).length:=Int.toNat_natCast _
  have hps : (ints (s.looks.getD k default).2).set p (natA k) = ints ((s.looks.getD k default).2.set p (k : Int)):=(List.map_set (f:=AV.int .i64)).symm
  obtain ⟨b0,hb0⟩ : ∃ b0,b0 = Blk.grow 3 false (List.replicate (((ints (s.looks.getD k default).2).length : Nat) : Int).toNat (AV.int .i64 0)):=⟨_,rfl⟩
  obtain ⟨b1,hb1⟩ : ∃ b1,b1 = Blk.grow 3 false (ints (s.looks.getD k default).2):=⟨_,rfl⟩
  obtain ⟨v,hv⟩ : ∃ v,v = AV.gr (k + 3) (((ints (s.looks.getD k default).2).length : Nat) : Int).toNat:=⟨_,rfl⟩
  have hvP : v = tolV s P0 k:=by rw [hv,hN];rfl
  obtain ⟨H1,hH1⟩ : ∃ H1,H1 = A :: B :: Blk.grow 22 false els :: (R ++ [b0]):=⟨_,rfl⟩
  obtain ⟨H2,hH2⟩ : ∃ H2,H2 = A :: B :: Blk.grow 22 false (els.set k v) :: (R ++ [b0]):=⟨_,rfl⟩
  obtain ⟨H3,hH3⟩ : ∃ H3,H3 = A :: B :: Blk.grow 22 false (els.set k v) :: (R ++ [b1]):=⟨_,rfl⟩
  obtain ⟨H4,hH4⟩ : ∃ H4,H4 = A :: B :: Blk.grow 22 false (els.set k v) :: (R ++ [tolB s p k]):=⟨_,rfl⟩
  have h12 : lget H1 2 = some (.grow 22 false els):=by rw [hH1];rfl
  have h1s : H1.set 2 (.grow 22 false (els.set k v)) = H2:=by rw [hH1,hH2];rfl
  have h22 : lget H2 2 = some (.grow 22 false (els.set k v)):=by rw [hH2];rfl
  have h32 : lget H3 2 = some (.grow 22 false (els.set k v)):=by rw [hH3];rfl
  have h2k : lget H2 (k + 3) = some (.grow 3 false (List.replicate (((ints (s.looks.getD k default).2).length : Nat) : Int).toNat (AV.int .i64 0))):=by rw [hH2,lget_3,<- hb0];exact vj hRl.symm
  have h3k : lget H3 (k + 3) = some (.grow 3 false (ints (s.looks.getD k default).2)):=by rw [hH3,lget_3,<- hb1];exact vj hRl.symm
  have h2s : H2.set (k + 3) (.grow 3 false (ints (s.looks.getD k default).2)) = H3:=by rw [hH2,hH3,set_3,<- hb1,vY hRl.symm]
  have h3s : H3.set (k + 3) (.grow 3 false (ints ((s.looks.getD k default).2.set p (k : Int)))) = H4:=by rw [hH3,hH4,set_3,<- htb,vY hRl.symm]
  have hl1 : H1.length = k + 4:=by rw [hH1];simp only [List.length_cons,List.length_append,hRl,List.length_nil]
  have hl2 : H2.length = k + 4:=by rw [hH2];simp only [List.length_cons,List.length_append,hRl,List.length_nil]
  have hl3 : H3.length = k + 4:=by rw [hH3];simp only [List.length_cons,List.length_append,hRl,List.length_nil]
  have hsl : (els.set k v).length = s.looks.length:=by rw [List.length_set];exact hel
  have hfr : qm H0 = false:=by
   rw [hH0]
   refine vF fun x hx=>?_
   rcases List.mem_cons.1 hx with rfl | hx
   ·rw [hA]
   rcases List.mem_cons.1 hx with rfl | hx
   ·rw [hB]
   rcases List.mem_cons.1 hx with rfl | hx
   ·rfl
   ·exact hRf x hx
  repeat' first|((with_reducible first|refine XBr.y fun h=>?_|refine XBr.n fun h=>?_|refine XBr.dec (fun h=>?_) fun h=>?_) <;> conv=>whnf)|((first|refine zh.a ?_|refine XIx.a ?_);conv=>whnf)|fail
  rw [hfr]
  conv=>whnf
  refine fR (k + 3) H1 (by omega) (by rw [hH0,hH1,hb0];rfl) ?_
  conv=>whnf
  repeat' first|(rw [h12];conv=>whnf)|((first|refine zh.mk ⟨hel,rfl,by omega,by omega⟩ ?_|(refine XPut.to (els.set k v) hel.symm hlt (by rw [hv];rfl) ?_));conv=>whnf)|fail
  refine yu H2 (by omega) h1s ?_
  conv=>whnf
  repeat' first|(refine zh.a ?_;conv=>whnf)|(rw [h22];conv=>whnf)|((first|(refine zh.mk ⟨hsl,rfl,by omega,by omega⟩ ?_)|((refine XGet.set rfl hes hel.symm ?_);rw [hv]));conv=>whnf)|(rw [h2k];conv=>whnf)|((refine zh.mk ⟨rfl,List.length_replicate⟩ ?_);conv=>whnf)|fail
  refine qi.mk' (ints (s.looks.getD k default).2) ?_ ?_
  ·rw [hN,List.take_of_length_le (by rw [zK];omega)]
   unfold splice
   rw [List.take_zero,List.nil_append,List.drop_eq_nil_of_le (by rw [List.length_replicate,zK];omega),List.append_nil]
  refine yu H3 (by omega) h2s ?_
  conv=>whnf
  repeat' first|(rw [h32];conv=>whnf)|((first|(refine zh.mk ⟨hsl,rfl,by omega,by omega⟩ ?_)|((refine XGet.set rfl hes hel.symm ?_);rw [hv]));conv=>whnf)|(rw [h3k];conv=>whnf)|((first|refine zh.mk ⟨hNl.symm,rfl,by omega,by omega⟩ ?_|refine XPut.to (ints ((s.looks.getD k default).2.set p (k : Int))) hNl (by omega) hps ?_);conv=>whnf)|fail
  refine yu H4 (by omega) h3s ?_
  conv=>whnf
  repeat' ((with_reducible refine XInt.a ?_);conv=>whnf)
  refine zj.go (k + 1) (by omega) (by omega) ?_ ⟨rfl,rfl,rfl,rfl,rfl,rfl,rfl,trivial⟩
  rw [<- hse v hlt hvP,<- hRn];exact hH4.symm
 obtain rfl : k = s.looks.length:=by omega
 have hRe:=hRe rfl
 obtain ⟨C,hC⟩ : ∃ C : List AV,C = [.int .i64 s.places,.int .i64 s.home,.int .i64 s.bed,.int .i64 s.last,.sl s.nw (s.ways.map wyA),.gr 2 s.looks.length,.sl s.nt (s.truths.map trA)]:=⟨_,rfl⟩
 obtain ⟨H5,hH5⟩ : ∃ H5,H5 = .cells C :: B :: Blk.grow 22 false els :: R:=⟨_,rfl⟩
 obtain ⟨H6,hH6⟩ : ∃ H6,H6 = .cells C :: .cells C :: Blk.grow 22 false els :: R:=⟨_,rfl⟩
 have h5s : H0.set 0 (.cells C) = H5:=by rw [hH0,hH5];rfl
 have h50 : lget H5 0 = some (.cells C):=by rw [hH5];rfl
 have h51 : lget H5 1 = some (.cells [.int .i64 0,.int .i64 0,.int .i64 0,.int .i64 0,.sl true [],.sl true [],.sl true []]):=by rw [hH5,hB];rfl
 have h6s : H5.set 1 (.cells C) = H6:=by rw [hH5,hH6];rfl
 have h61 : lget H6 1 = some (.cells C):=by rw [hH6];rfl
 have hl5 : H5.length = s.looks.length + 3:=by rw [hH5];simp only [List.length_cons,hRl]
 rw [hC] at h5s h50 h6s h61
 repeat' first|((with_reducible first|refine XBr.y fun h=>?_|refine XBr.n fun h=>?_|refine XBr.dec (fun h=>?_) fun h=>?_) <;> conv=>whnf)|(rw [h00];conv=>whnf)|((refine yu H5 (by omega) h5s ?_);conv=>whnf)|(rw [h50];conv=>whnf)|(rw [h51];conv=>whnf)|((refine yu H6 (by omega) h6s ?_);conv=>whnf)|(rw [h61];conv=>whnf)|fail
 refine ⟨Froz.agg (rs:=[.int .i64 s.places,.int .i64 s.home,.int .i64 s.bed,.int .i64 s.last,.sl s.nw (s.ways.map wyA),.gr 2 s.looks.length,.sl s.nt (s.truths.map trA)]) (gZ (tolS s p)) (.cons (.low rfl) (.cons (.low rfl) (.cons (.low rfl) (.cons (.low rfl) (.cons (.low (yB _)) (.cons (by rw [hH6];exact hRe _ _) (.cons (.low (yO _)) .nil)))))))⟩
end GA
end
section
namespace GA
open Go Go.RowKit Go.Proofs
theorem zaM {s : Sn} (hb : SnB s) (p : Nat) : SnB (tolS s p):=by
 refine { hb with k:=?_,kl:=?_ }
 ·show (vecF _ _).length <= 1000
  rw [zx];exact hb.k
 ·intro l hl
  obtain ⟨i,hi,rfl⟩:=yd.1 (show l ∈ vecF s.looks.length _ from hl)
  show ((s.looks.getD i default).2.set p (i : Int)).length <= _
  rw [List.length_set];exact hb.kl _ (zk hi)
theorem zb9 (s : Sn) (hb : SnB s) (m : Int) (h : begE s m ≠ 0) : Comp Tryz.prog 99 [snA s,.int .i64 m] (.tup [.int .i64 0,.int .i64 (begE s m)]):=by
 obtain ⟨r,hr,hc⟩:=fB s hb m h
 generalize begE s m = e at h hc
 refine Comp.body (T:=tab) (res:=[.tmp 4,.tmp 5]) za [] Tryz.func99 rfl (by kernel_rfl) Tryz.ntmps99 rfl (by simp only [List.length_cons,List.length_nil];decide) (by simp only [lowL,AV.low,snL];rfl) ?_;conv=>whnf
 repeat' first|((with_reducible first|refine XBr.y2 fun h=>?_|refine XBr.n2 fun h=>?_|refine XBr.bne (fun h=>?_) fun h=>?_) <;> conv=>whnf)|((refine zb.ret hc ?_);conv=>whnf)|fail
 exact ⟨.low rfl⟩
theorem fTold_ok (s : Sn) (hb : SnB s) (ok : SnOk s) (m : Nat) (hm : (m : Int) <= s.last) : Comp Tryz.prog 99 [snA s,natA m] (.tup [.int .i64 (zR (tolS s s.home.toNat) m),.int .i64 0]):=by
 have h1:=ok.h1
 have hc:=gS s hb m (vS.2 ⟨ok,by omega,hm⟩)
 have ht:=told_c s hb ok s.home.toNat (by omega)
 have hs:=qJ (tolS s s.home.toNat) (zaM hb _) (jY ok (by omega)) m hm
 have ht' : Comp Tryz.prog 263 [snA s,.int .i64 s.home] (snA (tolS s s.home.toNat)):=by
  have e : natA s.home.toNat = .int .i64 s.home:=by unfold natA;rw [Int.toNat_of_nonneg h1.1]
  rw [e] at ht;exact ht
 generalize zR (tolS s s.home.toNat) m = z at hs
 generalize tolS s s.home.toNat = u at hs ht'
 refine Comp.body (T:=tab) (res:=[.tmp 4,.tmp 5]) za [] Tryz.func99 rfl (by kernel_rfl) Tryz.ntmps99 rfl (by simp only [List.length_cons,List.length_nil];decide) (by simp only [lowL,AV.low,snL];rfl) ?_;conv=>whnf
 repeat' first|((with_reducible first|refine XBr.y2 fun h=>?_|refine XBr.n2 fun h=>?_|refine XBr.bne (fun h=>?_) fun h=>?_) <;> conv=>whnf)|((first|refine zb.ret hc ?_|refine zb.ret ht' ?_|refine zb.ret hs ?_);conv=>whnf)|fail
 exact ⟨.low rfl⟩
def spyK (s : Sn) (m : Nat) : Nat -> Int × Int
 | 0=>(-1,-1)
 | k + 1=>if (k : Int) = s.home then spyK s m k else if (spyK s m k).1 = -1 \/ (spyK s m k).2 < zR (tolS s k) m then ((k : Int),zR (tolS s k) m) else spyK s m k
def spyE (s : Sn) (m : Nat) : Int × Int:=spyK s m s.places.toNat
theorem fSpy_no (s : Sn) (hb : SnB s) (m : Int) (h : begE s m ≠ 0) : Comp Tryz.prog 100 [snA s,.int .i64 m] (.tup [.int .i64 0,.int .i64 0,.int .i64 (begE s m)]):=by
 obtain ⟨r,hr,hc⟩:=fB s hb m h
 generalize begE s m = e at h hc
 refine Comp.body (T:=tab) (res:=[.tmp 4,.tmp 5,.tmp 6]) za [] Tryz.func100 rfl (by kernel_rfl) Tryz.ntmps100 rfl (by simp only [List.length_cons,List.length_nil];decide) (by simp only [lowL,AV.low,snL];rfl) ?_;conv=>whnf
 repeat' first|((with_reducible first|refine XBr.y2 fun h=>?_|refine XBr.n2 fun h=>?_|refine XBr.bne (fun h=>?_) fun h=>?_) <;> conv=>whnf)|((refine zb.ret hc ?_);conv=>whnf)|fail
 exact ⟨.low rfl⟩
theorem fSpy_ok (s : Sn) (hb : SnB s) (ok : SnOk s) (m : Nat) (hm : (m : Int) <= s.last) : Comp Tryz.prog 100 [snA s,natA m] (.tup [.int .i64 (spyE s m).1,.int .i64 (spyE s m).2,.int .i64 0]):=by
 have p2:=ok.p2
 obtain ⟨P0,hP0⟩ : ∃ P0 : Nat,s.places = P0:=⟨s.places.toNat,by have:=ok.p1;omega⟩
 have hc:=gS s hb m (vS.2 ⟨ok,by omega,hm⟩)
 have hE : spyE s m = spyK s m P0:=by unfold spyE;rw [hP0];rfl
 rw [hE]
 refine Comp.body (T:=tab) (res:=[.tmp 4,.tmp 5,.tmp 6]) za [] Tryz.func100 rfl (by kernel_rfl) Tryz.ntmps100 rfl (by simp only [List.length_cons,List.length_nil];decide) (by simp only [lowL,AV.low,snL];rfl) ?_;conv=>whnf
 repeat' first|((with_reducible first|refine XBr.y2 fun h=>?_|refine XBr.n2 fun h=>?_|refine XBr.bne (fun h=>?_) fun h=>?_) <;> conv=>whnf)|((refine zb.ret hc ?_);conv=>whnf)|fail
 refine Walk.loopK za [] [(1,_),(2,_),(6,_),(22,_)] ⟨rfl,rfl,rfl,rfl,trivial⟩ (fun k : Nat=>k <= P0) (fun k=>[(4,.int .i64 (spyK s m k).1),(5,.int .i64 (spyK s m k).2),(23,natA k)]) (fun _=>[]) (fun k=>P0 - k) 0 (Nat.zero_le _) rfl ⟨rfl,rfl,rfl,trivial⟩ ?_
 intro k hk
 have hnx : spyK s m (k + 1) = if (k : Int) = s.home then spyK s m k else if (spyK s m k).1 = -1 \/ (spyK s m k).2 < zR (tolS s k) m then ((k : Int),zR (tolS s k) m) else spyK s m k:=rfl
 have hend : k = P0 -> spyK s m P0 = spyK s m k:=fun h=>by rw [h]
 generalize spyK s m k = b at hnx hend
 obtain ⟨a,v⟩:=b
 dsimp only at hnx ⊢
 conv=>whnf
 by_cases hlt : k < P0
 ·by_cases hh : (k : Int) = s.home
  ·rw [if_pos hh] at hnx
   repeat' ((with_reducible first|refine XBr.y fun h=>?_|refine XBr.n fun h=>?_|refine XBr.dec (fun h=>?_) fun h=>?_|refine XBr.y1 fun h=>?_|refine XBr.n1 fun h=>?_|refine XBr.beq (fun h=>?_) fun h=>?_|refine XInt.a ?_) <;> conv=>whnf)
   exact zj.go (k + 1) (by omega) (by omega) rfl ⟨rfl,rfl,rfl,rfl,(by rw [hnx];rfl),(by rw [hnx];rfl),rfl,trivial⟩
  rw [if_neg hh] at hnx
  have ht:=told_c s hb ok k (by omega)
  have hs:=qJ (tolS s k) (zaM hb _) (jY ok (by omega)) m hm
  generalize zR (tolS s k) m = z at hs hnx
  generalize tolS s k = u at hs ht
  by_cases hz : a = -1 \/ v < z
  ·rw [if_pos hz] at hnx
   repeat' first|((with_reducible first|apply XBr.tt|apply XBr.ff|refine XBr.y fun h=>?_|refine XBr.n fun h=>?_|refine XBr.dec (fun h=>?_) fun h=>?_|refine XBr.y1 fun h=>?_|refine XBr.n1 fun h=>?_|refine XBr.beq (fun h=>?_) fun h=>?_|refine XInt.a ?_) <;> conv=>whnf)|((first|refine zb.ret ht ?_|refine zb.ret hs ?_);conv=>whnf)|fail
   all_goals exact zj.go (k + 1) (by omega) (by omega) rfl ⟨rfl,rfl,rfl,rfl,(by rw [hnx];rfl),(by rw [hnx];rfl),rfl,trivial⟩
  ·rw [if_neg hz] at hnx
   repeat' first|((with_reducible first|apply XBr.ff|refine XBr.y fun h=>?_|refine XBr.n fun h=>?_|refine XBr.dec (fun h=>?_) fun h=>?_|refine XBr.y1 fun h=>?_|refine XBr.n1 fun h=>?_|refine XBr.beq (fun h=>?_) fun h=>?_|refine XInt.a ?_) <;> conv=>whnf)|((first|refine zb.ret ht ?_|refine zb.ret hs ?_);conv=>whnf)|fail
   all_goals exact zj.go (k + 1) (by omega) (by omega) rfl ⟨rfl,rfl,rfl,rfl,(by rw [hnx];rfl),(by rw [hnx];rfl),rfl,trivial⟩
 rw [hend (by omega)]
 repeat' ((with_reducible first|refine XBr.y fun h=>?_|refine XBr.n fun h=>?_|refine XBr.dec (fun h=>?_) fun h=>?_) <;> conv=>whnf)
 exact ⟨.low rfl⟩
end GA
end
section
namespace GA
open Go Go.RowKit Go.Proofs
theorem jD (s : Sn) (ok : SnOk s) (hL : s.last <= 59) (m : Nat) (hm : (m : Int) <= s.last) : Comp Tryz.prog 101 [rsA s,.sl false ((wrT s).map rsT),natA m] (.int .i64 (zR s m)):=by
 have h1:=ok.h1;have hal:=ym ok
 have hac:=qI s (by have:=ok.t2;omega)
 obtain ⟨h0,hh0⟩ : ∃ h0 : Nat,s.home = h0:=⟨s.home.toNat,by omega⟩
 have hse:=gD s ok h0 (allN s) (by omega) (by omega)
 have hT:=wrT_ok ok hL
 have hat:=fun l (h : l ∈ zC s h0 (allN s))=>(hT.at (y:=⟨h0,m,l⟩) ⟨by show (h0 : Int) < s.places;omega,hm,jI ok h⟩)
 have hwv:=fun l (h : l ∈ zC s h0 (allN s))=>(zbZ ok (y:=⟨h0,m,l⟩) ⟨by show (h0 : Int) < s.places;omega,hm,jI ok h⟩)
 have hlen:=kI s h0 (allN s)
 have hsd : zR s m = (zC s h0 (allN s)).foldl (fun n l=>min n (zi s ⟨h0,m,l⟩)) 60:=by unfold zR;rw [hh0];rfl
 rw [hsd]
 generalize zC s h0 (allN s) = L at hse hat hwv hlen
 have hse' : Comp Tryz.prog 71 [rsA s,.int .i64 s.home,natA (allN s)] (nsA L):=by rw [hh0];exact hse
 have e1 : ((L.map natA).length : Int) = L.length:=by rw [List.length_map]
 have e2 : (((wrT s).map rsT).length : Int) = (wrT s).length:=by rw [List.length_map]
 generalize wrT s = T at hT hat hwv e2
 have hho : s.home.toNat = h0:=by rw [hh0];rfl
 refine Comp.body (T:=tab) (res:=[.tmp 6]) za [] Tryz.func101 rfl (by kernel_rfl) Tryz.ntmps101 rfl (by simp only [List.length_cons,List.length_nil];decide) (by simp only [lowL,AV.low,rsL,zZ,natA];rfl) ?_;conv=>whnf
 repeat' first|((with_reducible first|apply Chk.go|apply ChkA.go|apply ChkF.go|apply ChkB.go|apply zq.mk);conv=>whnf)|(with_reducible first|apply XAnd.mk|exact trivial)|(exact zg.mk rfl rfl)|(apply Walk.drawN (id:=1) za zd [] [] (hsU _) [_,_,_,_,_,_,_] (by kernel_rfl) rfl)|((first|refine zb.ret hac ?_|refine zb.ret hse' ?_);conv=>whnf)|fail
 refine Walk.loopK za [] [(1,_),(2,_),(3,_),(7,_)] ⟨rfl,rfl,rfl,rfl,trivial⟩ (fun k : Nat=>k <= L.length) (fun k=>[(8,.int .i64 ((L.take k).foldl (fun n l=>min n (zi s ⟨h0,m,l⟩)) 60)),(9,natA k)]) (fun _=>[]) (fun k=>L.length - k) 0 (Nat.zero_le _) rfl ⟨rfl,rfl,trivial⟩ ?_
 intro k hk
 have hnx : k < L.length -> (L.take (k + 1)).foldl (fun n l=>min n (zi s ⟨h0,m,l⟩)) 60 = min ((L.take k).foldl (fun n l=>min n (zi s ⟨h0,m,l⟩)) 60) (zi s ⟨h0,m,L.getD k default⟩):=fun h=>by rw [zD h,List.foldl_append];rfl
 have hend : k = L.length -> (L.take k).foldl (fun n l=>min n (zi s ⟨h0,m,l⟩)) 60 = L.foldl (fun n l=>min n (zi s ⟨h0,m,l⟩)) 60:=fun h=>by rw [h,List.take_length]
 generalize (L.take k).foldl (fun n l=>min n (zi s ⟨h0,m,l⟩)) 60 = v at hnx hend
 conv=>whnf
 by_cases hlt : k < L.length
 ·have hnx:=hnx hlt
  obtain ⟨g1,g2,g3,-,-⟩:=hat _ (zk (d:=default) hlt)
  have hw:=hwv _ (zk (d:=default) hlt)
  dsimp only at g1 g2 g3
  have hw2 : zi s ⟨h0,m,L.getD k default⟩ = ((T.getD s.home.toNat default).2.getD m default).2.getD (L.getD k default) default:=by rw [<- hw,hho];rfl
  rw [hw2] at hnx
  rw [<- hho] at g1 g2 g3
  have e3 : (((T.getD s.home.toNat default).2.map rwA).length : Int) = (T.getD s.home.toNat default).2.length:=by rw [List.length_map]
  have e4 : ((ints ((T.getD s.home.toNat default).2.getD m default).2).length : Int) = ((T.getD s.home.toNat default).2.getD m default).2.length:=by rw [zK]
  repeat' first|((with_reducible first|refine XBr.y fun h=>?_|refine XBr.n fun h=>?_|refine XBr.dec (fun h=>?_) fun h=>?_|refine XInt.a ?_|apply Chk.go|apply ChkA.go|apply ChkF.go|apply ChkB.go|apply zq.mk) <;> conv=>whnf)|((first|refine XIx.a ?_|refine XIx.b ?_);conv=>whnf)|(with_reducible first|apply XAnd.mk|exact trivial)|(exact zg.mk rfl rfl)|(apply Walk.drawN (id:=6) za zd [] [] (hsU _) [_,_,_,_,_,_,_,_,_,_,_,_,_,_,_,_,_] (by kernel_rfl) rfl)|fail
  exact zj.go (k + 1) (by omega) (by omega) rfl ⟨rfl,rfl,rfl,rfl,(by rw [hnx];rfl),rfl,trivial⟩
 obtain rfl : k = L.length:=by omega
 repeat' ((with_reducible first|refine XBr.y fun h=>?_|refine XBr.n fun h=>?_|refine XBr.dec (fun h=>?_) fun h=>?_) <;> conv=>whnf)
 exact XOut.int (hend rfl)
theorem zbI (s : Sn) (ok : SnOk s) (p : Nat) (hp : (p : Int) < s.places) : Comp Tryz.prog 102 [rsA s,natA p] (rsA (tolS s p)):=by
 have t2:=ok.t2;have k1:=ok.k1;have p2:=ok.p2
 obtain ⟨P0,hP0⟩ : ∃ P0 : Nat,s.places = P0:=⟨s.places.toNat,by have:=ok.p1;omega⟩
 have hrl : ∀ i,i < s.looks.length -> (s.looks.getD i default).2.length = P0:=fun i hi=>by have:=ok.kl _ (zk (d:=default) hi);omega
 have e1 : ((s.looks.map rwA).length : Int) = s.looks.length:=by rw [List.length_map]
 refine Comp.body (T:=tab) (res:=[.cell 4 158]) za [17] Tryz.func102 rfl (by kernel_rfl) Tryz.ntmps102 rfl (by simp only [List.length_cons,List.length_nil];decide) (by simp only [lowL,AV.low,rsL];rfl) ?_;conv=>whnf
 skip
 refine Walk.nilcell 1 5 22 rfl rfl ?_
 refine Walk.loopK za [] [(1,_),(2,_),(4,_),(5,_)] ⟨rfl,rfl,rfl,rfl,trivial⟩ (fun k : Nat=>k <= s.looks.length) (fun k=>[(6,natA k)]) (fun k=>.cells rsZ' :: .cells [.int .i64 s.places,.int .i64 s.home,.int .i64 s.bed,.int .i64 s.last,.sl s.nw (s.ways.map wyA),.gr 2 k,.sl s.truths.isEmpty (s.truths.map tdA)] :: .grow 22 (vecF k (tolV s P0)).isEmpty (vecF k (tolV s P0)) :: vecF k (tolB s p)) (fun k=>s.looks.length - k) 0 (Nat.zero_le _) ?_ ⟨rfl,trivial⟩ ?_
 ·rw [zL,zL];rfl
 intro k hk
 have hel : (vecF k (tolV s P0)).length = k:=zx _ _
 have hes:=yJ k (tolV s P0)
 have hRl : (vecF k (tolB s p)).length = k:=zx _ _
 have hRn : vecF k (tolB s p) ++ [tolB s p k] = vecF (k + 1) (tolB s p):=(yJ _ _).symm
 have hRe : k = s.looks.length -> ∀ A B,Froz Tryz.prog (A :: B :: .grow 22 (vecF k (tolV s P0)).isEmpty (vecF k (tolV s P0)) :: vecF k (tolB s p)) (.gr 2 s.looks.length) (.sl false ((tolS s p).looks.map rwA)):=fun h A B=>by
  have he : (vecF k (tolV s P0)).isEmpty = false:=by
   cases hv : vecF k (tolV s P0) with
   | nil=>rw [hv] at hel;have:=ok.t1;simp at hel;omega
   | cons _ _=>rfl
  rw [he,h];exact zcW (n:=s.looks.length) rfl rfl hrl
 generalize vecF k (tolV s P0) = els at hel hes hRe
 generalize vecF k (tolB s p) = R at hRl hRn hRe
 obtain ⟨A,hA⟩ : ∃ A,A = Blk.cells rsZ':=⟨_,rfl⟩
 obtain ⟨CB,hCB⟩ : ∃ CB : Nat -> List AV,CB = fun k=>[.int .i64 s.places,.int .i64 s.home,.int .i64 s.bed,.int .i64 s.last,.sl s.nw (s.ways.map wyA),.gr 2 k,.sl s.truths.isEmpty (s.truths.map tdA)]:=⟨_,rfl⟩
 obtain ⟨H0,hH0⟩ : ∃ H0,H0 = A :: .cells (CB k) :: Blk.grow 22 els.isEmpty els :: R:=⟨_,rfl⟩
 have h0l : H0.length = k + 3:=by rw [hH0];simp only [List.length_cons,hRl]
 have h01 : lget H0 1 = some (.cells [.int .i64 s.places,.int .i64 s.home,.int .i64 s.bed,.int .i64 s.last,.sl s.nw (s.ways.map wyA),.gr 2 k,.sl s.truths.isEmpty (s.truths.map tdA)]):=by rw [hH0,hCB];rfl
 refine XRun.heap H0 (by rw [hH0,hA,hCB]) ?_
 conv=>whnf
 by_cases hlt : k < s.looks.length
 ·have hrow:=hrl k hlt
  have hkn:=ok.kn _ (zk (d:=default) hlt)
  have htb : tolB s p k = .grow 3 false (ints ((s.looks.getD k default).2.set p (k : Int))):=rfl
  have e2 : ((ints (s.looks.getD k default).2).length : Int) = P0:=by rw [zK,hrow]
  have e4 : (((s.looks[k]?.getD default).snd.length : Nat) : Int) = P0:=by rw [<- List.getD_eq_getElem?_getD];omega
  have hlp : (ints (s.looks.getD k default).2).length = P0:=by rw [zK];exact hrow
  have hps : (ints (s.looks.getD k default).2).set p (natA k) = ints ((s.looks.getD k default).2.set p (k : Int)):=(List.map_set (f:=AV.int .i64)).symm
  obtain ⟨b1,hb1⟩ : ∃ b1,b1 = Blk.grow 3 false (ints (s.looks.getD k default).2):=⟨_,rfl⟩
  obtain ⟨v,hv⟩ : ∃ v,v = AV.gr (k + 3) (ints (s.looks.getD k default).2).length:=⟨_,rfl⟩
  have hvP : v = tolV s P0 k:=by rw [hv,hlp];rfl
  obtain ⟨H1,hH1⟩ : ∃ H1,H1 = A :: .cells (CB k) :: Blk.grow 22 els.isEmpty els :: (R ++ [b1]):=⟨_,rfl⟩
  obtain ⟨H2,hH2⟩ : ∃ H2,H2 = A :: .cells (CB k) :: Blk.grow 22 els.isEmpty els :: (R ++ [tolB s p k]):=⟨_,rfl⟩
  obtain ⟨H3,hH3⟩ : ∃ H3,H3 = A :: .cells (CB k) :: Blk.grow 22 (els.isEmpty && false) (els ++ [v]) :: (R ++ [tolB s p k]):=⟨_,rfl⟩
  obtain ⟨H4,hH4⟩ : ∃ H4,H4 = A :: .cells (CB (k + 1)) :: Blk.grow 22 (els.isEmpty && false) (els ++ [v]) :: (R ++ [tolB s p k]):=⟨_,rfl⟩
  have h1k : lget H1 (k + 3) = some (.grow 3 false (ints (s.looks.getD k default).2)):=by rw [hH1,lget_3,<- hb1];exact vj hRl.symm
  have h1s : H1.set (k + 3) (.grow 3 false (ints ((s.looks.getD k default).2.set p (k : Int)))) = H2:=by rw [hH1,hH2,set_3,<- htb,vY hRl.symm]
  have h21 : lget H2 1 = some (.cells [.int .i64 s.places,.int .i64 s.home,.int .i64 s.bed,.int .i64 s.last,.sl s.nw (s.ways.map wyA),.gr 2 k,.sl s.truths.isEmpty (s.truths.map tdA)]):=by rw [hH2,hCB];rfl
  have h22 : lget H2 2 = some (.grow 22 els.isEmpty els):=by rw [hH2];rfl
  have h2s : H2.set 2 (.grow 22 (els.isEmpty && false) (els ++ [v])) = H3:=by rw [hH2,hH3];rfl
  have h31 : lget H3 1 = some (.cells [.int .i64 s.places,.int .i64 s.home,.int .i64 s.bed,.int .i64 s.last,.sl s.nw (s.ways.map wyA),.gr 2 k,.sl s.truths.isEmpty (s.truths.map tdA)]):=by rw [hH3,hCB];rfl
  have h3s : H3.set 1 (.cells [.int .i64 s.places,.int .i64 s.home,.int .i64 s.bed,.int .i64 s.last,.sl s.nw (s.ways.map wyA),.gr 2 (k + 1),.sl s.truths.isEmpty (s.truths.map tdA)]) = H4:=by rw [hH3,hH4,hCB];rfl
  have hl1 : H1.length = k + 4:=by rw [hH1];simp only [List.length_cons,List.length_append,hRl,List.length_nil]
  have hl2 : H2.length = k + 4:=by rw [hH2];simp only [List.length_cons,List.length_append,hRl,List.length_nil]
  have hl3 : H3.length = k + 4:=by rw [hH3];simp only [List.length_cons,List.length_append,hRl,List.length_nil]
  repeat' first|((with_reducible first|refine XBr.y fun h=>?_|refine XBr.n fun h=>?_|refine XBr.dec (fun h=>?_) fun h=>?_) <;> conv=>whnf)|((first|refine zh.a ?_|refine XIx.a ?_);conv=>whnf)|fail
  refine fR (k + 3) H1 (by omega) (by rw [hH0,hH1,hb1];rfl) ?_
  conv=>whnf
  repeat' first|(rw [h1k];conv=>whnf)|((first|refine zh.mk ⟨rfl,rfl,by omega,by omega⟩ ?_|refine XPut.to (ints ((s.looks.getD k default).2.set p (k : Int))) rfl (by omega) hps ?_);conv=>whnf)|fail
  refine yu H2 (by omega) h1s ?_
  conv=>whnf
  repeat' first|(refine zh.a ?_;conv=>whnf)|(rw [h21];conv=>whnf)|(rw [h22];conv=>whnf)|fail
  refine yu H3 (by omega) (by rw [<- h2s,hv];rfl) ?_
  conv=>whnf
  repeat' (rw [h31];conv=>whnf)
  refine yu H4 (by omega) h3s ?_
  conv=>whnf
  repeat' ((with_reducible refine XInt.a ?_);conv=>whnf)
  refine zj.go (k + 1) (by omega) (by omega) ?_ ⟨rfl,rfl,rfl,rfl,rfl,trivial⟩
  rw [hes,zy,<- hvP,<- hRn,hH4,hA,hCB]
 obtain rfl : k = s.looks.length:=by omega
 have hRe:=hRe rfl
 rw [hA] at hH0
 obtain ⟨H5,hH5⟩ : ∃ H5,H5 = .cells (CB s.looks.length) :: .cells (CB s.looks.length) :: Blk.grow 22 els.isEmpty els :: R:=⟨_,rfl⟩
 have h00 : lget H0 0 = some (.cells rsZ'):=by rw [hH0];rfl
 have h0s : H0.set 0 (.cells [.int .i64 s.places,.int .i64 s.home,.int .i64 s.bed,.int .i64 s.last,.sl s.nw (s.ways.map wyA),.gr 2 s.looks.length,.sl s.truths.isEmpty (s.truths.map tdA)]) = H5:=by rw [hH0,hH5,hCB];rfl
 have h50 : lget H5 0 = some (.cells [.int .i64 s.places,.int .i64 s.home,.int .i64 s.bed,.int .i64 s.last,.sl s.nw (s.ways.map wyA),.gr 2 s.looks.length,.sl s.truths.isEmpty (s.truths.map tdA)]):=by rw [hH5,hCB];rfl
 repeat' first|((with_reducible first|refine XBr.y fun h=>?_|refine XBr.n fun h=>?_|refine XBr.dec (fun h=>?_) fun h=>?_) <;> conv=>whnf)|(rw [h01];conv=>whnf)|(rw [h00];conv=>whnf)|((refine yu H5 (by omega) h0s ?_);conv=>whnf)|(rw [h50];conv=>whnf)|fail
 refine ⟨Froz.agg (rs:=[.int .i64 s.places,.int .i64 s.home,.int .i64 s.bed,.int .i64 s.last,.sl s.nw (s.ways.map wyA),.gr 2 s.looks.length,.sl s.truths.isEmpty (s.truths.map tdA)]) (rsOne (tolS s p)) (.cons (.low rfl) (.cons (.low rfl) (.cons (.low rfl) (.cons (.low rfl) (.cons (.low (yB _)) (.cons (by rw [hH5];exact hRe _ _) (.cons (.low (lowTd _)) .nil)))))))⟩
end GA
end
