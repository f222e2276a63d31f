/- Part 9 of a proof: F53, F54, F91. -/
import Derived.Test.YtdeocemmlagnhaaGreatP8
set_option linter.unusedVariables false
set_option linter.unusedSimpArgs false
set_option maxRecDepth 8000
section
namespace GA
open Go Go.RowKit Go.Proofs
theorem SnEq.start {s u : Sn} (e : SnEq s u) (m : Nat) : zR s m = zR u m:=by
 unfold zR
 rw [e.home,e.allN,e.parts,show (fun n l=>min n (zi s ⟨u.home.toNat,m,l⟩)) = (fun n l=>min n (zi u ⟨u.home.toNat,m,l⟩)) from funext fun n=>funext fun l=>by rw [e.worth]]
theorem SnEq.begE {s u : Sn} (e : SnEq s u) (m : Int) : GA.begE s m = GA.begE u m:=by unfold GA.begE;rw [e.err,e.last]
theorem SnEq.ok {s u : Sn} (e : SnEq s u) (ok : SnOk s) : SnOk u:=zO.1 (by rw [<- e.err];exact zO.2 ok)
theorem SnEq.tol {s u : Sn} (e : SnEq s u) (p : Nat) : SnEq (tolS s p) (tolS u p):=by
 refine ⟨e.places,e.home,e.bed,e.last,e.ways,?_,e.truths⟩
 show (vecF s.looks.length fun i=>tolR p i (s.looks.getD i default)).map (·.2) = (vecF u.looks.length fun i=>tolR p i (u.looks.getD i default)).map (·.2)
 rw [yF,yF,e.lenK]
 refine zB fun i _=>?_
 show (s.looks.getD i default).2.set p (i : Int) = (u.looks.getD i default).2.set p (i : Int)
 have:=congrArg (fun l=>l.getD i (default : Rw).2) e.looks
 rw [wv (fun r : Rw=>r.2),wv (fun r : Rw=>r.2)] at this
 rw [this]
theorem SnEq.best2 {s u : Sn} (e : SnEq s u) : bstE s = bstE u:=by
 unfold bstE
 rw [e.last]
 have : ∀ k,bstK s k = bstK u k:=fun k=>by
  induction k with
  | zero=>rfl
  | succ k ih=>rw [bstK,bstK,ih,e.start]
 exact this _
theorem SnEq.spy {s u : Sn} (e : SnEq s u) (m : Nat) : spyE s m = spyE u m:=by
 unfold spyE
 rw [e.places]
 have : ∀ k,spyK s m k = spyK u m k:=fun k=>by
  induction k with
  | zero=>rfl
  | succ k ih=>rw [spyK,spyK,ih,e.home,(e.tol k).start]
 exact this _
theorem SnEq.turn {s u : Sn} (e : SnEq s u) (l : Nat) : kU s l = kU u l:=by
 unfold kU
 rw [e.last,show gh s l = gh u l from funext fun b=>by unfold gh;rw [e.worth,e.bed,e.last]]
theorem zb0 (s : Sn) : ∀ k,-1 <= (bstK s k).2
 | 0=>Int.le_refl _
 | k + 1=>by
   rw [bstK]
   split
   ·have:=zb0 s k;dsimp only;omega
   ·exact zb0 s k
theorem gK (s : Sn) (m : Nat) : ∀ k,-1 <= (spyK s m k).1
 | 0=>Int.le_refl _
 | k + 1=>by
   rw [spyK]
   split
   ·exact gK s m k
   ·split
    ·show (-1 : Int) <= (k : Int);omega
    ·exact gK s m k
def lstK (s : Sn) (l : Nat) : Nat -> Option Nat
 | 0=>none
 | k + 1=>if 0 <= zi s ⟨s.bed.toNat,k,l⟩ then some k else lstK s l k
theorem zaC {s : Sn} {l j : Nat} : ∀ {k : Nat},lstK s l k = some j -> j < k /\ 0 <= zi s ⟨s.bed.toNat,j,l⟩ /\ ∀ i,j < i -> i < k -> ¬ 0 <= zi s ⟨s.bed.toNat,i,l⟩
 | 0,h=>by cases h
 | k + 1,h=>by
   rw [lstK] at h
   split at h
   ·cases h
    rename_i hw
    exact ⟨by omega,hw,fun i h1 h2=>by omega⟩
   ·rename_i hw
    obtain ⟨h1,h2,h3⟩:=zaC h
    refine ⟨by omega,h2,fun i h4 h5=>?_⟩
    by_cases e : i = k
    ·rw [e];exact hw
    ·exact h3 i h4 (by omega)
theorem zaG {s : Sn} {l : Nat} : ∀ {k : Nat},lstK s l k = none -> ∀ i,i < k -> ¬ 0 <= zi s ⟨s.bed.toNat,i,l⟩
 | 0,_,i,hi=>by omega
 | k + 1,h,i,hi=>by
   rw [lstK] at h
   split at h
   ·cases h
   ·rename_i hw
    by_cases e : i = k
    ·rw [e];exact hw
    ·exact zaG h i (by omega)
theorem turn_lst {s : Sn} (ok : SnOk s) (l : Nat) : kU s l = match lstK s l (s.last.toNat + 1) with | some j=>(j : Int) | none=>-1:=by
 have l1:=ok.l1
 have hb : ∀ b,gh s l b = true ↔ 0 <= zi s ⟨s.bed.toNat,s.last.toNat - b,l⟩:=fun b=>by
  have:=yQ s ⟨s.bed.toNat,s.last.toNat - b,l⟩
  unfold gh
  rw [bne_iff_ne]
  omega
 cases h : lstK s l (s.last.toNat + 1) with
 | some j =>
   obtain ⟨h1,h2,h3⟩:=zaC h
   unfold kU
   rw [je (k:=s.last.toNat - j) (by omega) ((hb _).2 (by rw [show s.last.toNat - (s.last.toNat - j) = j by omega];exact h2)) fun i hi=>by
    rw [<- Bool.not_eq_true,hb];exact h3 _ (by omega) (by omega)]
   show s.last - ((s.last.toNat - j : Nat) : Int) = j
   omega
 | none =>
   have h1:=zaG h
   unfold kU
   rw [jd fun i hi=>by rw [<- Bool.not_eq_true,hb];exact h1 _ (by omega)]
theorem zbl (s : Sn) (hb : SnB s) (ok : SnOk s) (m : Int) : ∃ n e : Int,Comp Tryz.prog 97 [snA (ownS s),.int .i64 m] (.tup [.int .i64 n,.int .i64 e]) /\ (0 <= m /\ m <= s.last -> n = zR s m.toNat /\ e = 0) /\ (¬ (0 <= m /\ m <= s.last) -> n = 0 /\ e = 3):=by
 have e:=kL s
 by_cases h : 0 <= m /\ m <= s.last
 ·have hc:=qJ (ownS s) (ku hb) (e.ok ok) m.toNat (by rw [<- e.last];omega)
  rw [<- e.start] at hc
  rw [show natA m.toNat = .int .i64 m by unfold natA;rw [Int.toNat_of_nonneg h.1]] at hc
  exact ⟨_,_,hc,fun _=>⟨rfl,rfl⟩,fun h'=>absurd h h'⟩
 ·have hE : begE (ownS s) m = 3:=by
   rw [<- e.begE];unfold begE
   rw [if_neg (by simp [zO.2 ok]),if_pos (by rw [<- Bool.not_eq_true,zr];exact h)]
  have hc:=zaH (ownS s) (ku hb) m (by rw [hE];simp)
  rw [hE] at hc
  exact ⟨_,_,hc,fun h'=>absurd h' h,fun _=>⟨rfl,rfl⟩⟩
theorem zc3 (s : Sn) (hb : SnB s) (ok : SnOk s) (m : Int) : ∃ n e : Int,Comp Tryz.prog 99 [snA (ownS s),.int .i64 m] (.tup [.int .i64 n,.int .i64 e]) /\ (0 <= m /\ m <= s.last -> n = zR (tolS s s.home.toNat) m.toNat /\ e = 0) /\ (¬ (0 <= m /\ m <= s.last) -> n = 0 /\ e = 3):=by
 have e:=kL s
 by_cases h : 0 <= m /\ m <= s.last
 ·have hc:=fTold_ok (ownS s) (ku hb) (e.ok ok) m.toNat (by rw [<- e.last];omega)
  rw [<- e.home,<- (e.tol s.home.toNat).start] at hc
  rw [show natA m.toNat = .int .i64 m by unfold natA;rw [Int.toNat_of_nonneg h.1]] at hc
  exact ⟨_,_,hc,fun _=>⟨rfl,rfl⟩,fun h'=>absurd h h'⟩
 ·have hE : begE (ownS s) m = 3:=by
   rw [<- e.begE];unfold begE
   rw [if_neg (by simp [zO.2 ok]),if_pos (by rw [<- Bool.not_eq_true,zr];exact h)]
  have hc:=zb9 (ownS s) (ku hb) m (by rw [hE];simp)
  rw [hE] at hc
  exact ⟨_,_,hc,fun h'=>absurd h' h,fun _=>⟨rfl,rfl⟩⟩
theorem zdv (s : Sn) (hb : SnB s) (ok : SnOk s) (m : Int) : ∃ a n e : Int,Comp Tryz.prog 100 [snA (ownS s),.int .i64 m] (.tup [.int .i64 a,.int .i64 n,.int .i64 e]) /\ (0 <= m /\ m <= s.last -> a = (spyE s m.toNat).1 /\ n = (spyE s m.toNat).2 /\ e = 0) /\ (¬ (0 <= m /\ m <= s.last) -> a = 0 /\ n = 0 /\ e = 3):=by
 have e:=kL s
 by_cases h : 0 <= m /\ m <= s.last
 ·have hc:=fSpy_ok (ownS s) (ku hb) (e.ok ok) m.toNat (by rw [<- e.last];omega)
  rw [<- e.spy] at hc
  rw [show natA m.toNat = .int .i64 m by unfold natA;rw [Int.toNat_of_nonneg h.1]] at hc
  exact ⟨_,_,_,hc,fun _=>⟨rfl,rfl,rfl⟩,fun h'=>absurd h h'⟩
 ·have hE : begE (ownS s) m = 3:=by
   rw [<- e.begE];unfold begE
   rw [if_neg (by simp [zO.2 ok]),if_pos (by rw [<- Bool.not_eq_true,zr];exact h)]
  have hc:=fSpy_no (ownS s) (ku hb) m (by rw [hE];simp)
  rw [hE] at hc
  exact ⟨_,_,_,hc,fun h'=>absurd h' h,fun _=>⟨rfl,rfl,rfl⟩⟩
def oN (o : Option Nat) : Int:=match o with | some j=>(j : Int) | none=>0
def oE (o : Option Nat) : Int:=match o with | some _=>0 | none=>6
theorem zcP (s : Sn) (hb : SnB s) (ok : SnOk s) (l : Int) : ∃ n e : Int,Comp Tryz.prog 37 [snA (ownS s),.int .i64 l] (.tup [.int .i64 n,.int .i64 e]) /\ (1 <= l /\ l <= allN s -> n = oN (lstK s l.toNat (s.last.toNat + 1)) /\ e = oE (lstK s l.toNat (s.last.toNat + 1))) /\ (¬ (1 <= l /\ l <= allN s) -> n = 0 /\ e = 3):=by
 have e:=kL s
 by_cases h : 1 <= l /\ l <= allN s
 ·have hc:=zcZ (ownS s) (ku hb) l.toNat (e.ok ok) (by omega) (by rw [<- e.allN];omega)
  rw [<- e.turn] at hc
  rw [show natA l.toNat = .int .i64 l by unfold natA;rw [Int.toNat_of_nonneg (by omega)]] at hc
  have ht:=turn_lst ok l.toNat
  refine ⟨_,_,hc,fun _=>?_,fun h'=>absurd h h'⟩
  cases ho : lstK s l.toNat (s.last.toNat + 1) with
  | some j =>
    rw [ho] at ht
    have ht' : kU s l.toNat = (j : Int):=ht
    rw [ht',if_neg (by omega),if_neg (by omega)]
    exact ⟨rfl,rfl⟩
  | none =>
    rw [ho] at ht
    have ht' : kU s l.toNat = -1:=ht
    rw [ht',if_pos rfl,if_pos rfl]
    exact ⟨rfl,rfl⟩
 ·have hf : inZ l 1 (allN (ownS s)) = false:=by rw [<- e.allN,<- Bool.not_eq_true,zr];exact h
  have hc:=zcH (ownS s) (ku hb) l (.inr hf)
  have hE : qo (ownS s) l = 3:=by unfold qo;rw [if_neg (by simp [zO.2 (e.ok ok)]),if_pos hf]
  rw [hE] at hc
  exact ⟨_,_,hc,fun h'=>absurd h' h,fun _=>⟨rfl,rfl⟩⟩
def bs1 (b : Nat × Int) : Int:=if b.2 = -1 then 0 else (b.1 : Int)
def bs2 (b : Nat × Int) : Int:=if b.2 = -1 then 0 else b.2
def bs3 (b : Nat × Int) : Int:=if b.2 = -1 then 6 else 0
theorem zc1 (s : Sn) (hb : SnB s) (ok : SnOk s) : Comp Tryz.prog 98 [snA (ownS s)] (.tup [.int .i64 (bs1 (bstE s)),.int .i64 (bs2 (bstE s)),.int .i64 (bs3 (bstE s))]):=by
 have e:=kL s
 have hc:=fBest_ok (ownS s) (ku hb) (e.ok ok)
 rw [<- e.best2] at hc
 have h1 : natA (if (bstE s).2 = -1 then 0 else (bstE s).1) = .int .i64 (bs1 (bstE s)):=by
  unfold natA bs1;split <;> rfl
 rw [h1] at hc
 exact hc
end GA
end
section
namespace GA
open Go Go.RowKit Go.Proofs
set_option maxHeartbeats 16000000 in
theorem zbf (s : Sn) (m l : Int) : Comp Tryz.prog 13 [snA s,.int .i64 m,.int .i64 l] (.bool true):=by
 have hgr:=wb s
 have hwd:=zc8 s 16
 cases hgs : grtS s with
 | true =>
   rw [hgs] at hgr
   refine Comp.body (T:=tab) (res:=[.tmp 6]) za [] Tryz.func13 rfl (by kernel_rfl) Tryz.ntmps13 rfl (by simp only [List.length_cons,List.length_nil];decide) (by simp only [lowL,AV.low,snL];rfl) ?_;conv=>whnf
   repeat' first|((first|(with_reducible apply XBr.tt)|(first|refine zb.ret hgr ?_|refine zb.ret zA ?_));conv=>whnf)|fail
   exact XOut.bool rfl
 | false =>
 rw [hgs] at hgr
 cases hws : qH s 16 with
 | true =>
   rw [hws] at hwd
   refine Comp.body (T:=tab) (res:=[.tmp 6]) za [] Tryz.func13 rfl (by kernel_rfl) Tryz.ntmps13 rfl (by simp only [List.length_cons,List.length_nil];decide) (by simp only [lowL,AV.low,snL];rfl) ?_;conv=>whnf
   repeat' first|((first|(with_reducible first|apply XBr.tt|apply XBr.ff)|(first|refine zb.ret hgr ?_|refine zb.ret hwd ?_|refine zb.ret zA ?_));conv=>whnf)|fail
   exact XOut.bool rfl
 | false =>
 rw [hws] at hwd
 have hb:=(grt_B hgs).1
 have hbo:=ku hb
 have e:=kL s
 have how:=qt s hb
 have hth:=jx s hb
 have hsa:=wV s hb
 have hck:=jJ s hb
 by_cases h0 : snE s = 0
 rotate_left
 ·have ho0 : snE (ownS s) ≠ 0:=by rw [<- e.err];exact h0
  have hbE : begE (ownS s) m = snE s:=by rw [<- e.begE];unfold begE;rw [if_pos h0]
  have hSt:=zaH (ownS s) hbo m (by rw [hbE];exact h0)
  have hTo:=zb9 (ownS s) hbo m (by rw [hbE];exact h0)
  have hSp:=fSpy_no (ownS s) hbo m (by rw [hbE];exact h0)
  have hBe:=fBest_no (ownS s) hbo ho0
  have hTu:=zcH (ownS s) hbo l (.inl ho0)
  have htE : qo (ownS s) l = snE s:=by unfold qo;rw [if_pos ho0,<- e.err]
  rw [hbE] at hSt hTo hSp
  rw [<- e.err] at hBe
  rw [htE] at hTu
  have hrm:=hck
  generalize snE s = v at h0 hck hSt hTo hSp hBe hTu hrm
  refine Comp.body (T:=tab) (res:=[.tmp 6]) za [] Tryz.func13 rfl (by kernel_rfl) Tryz.ntmps13 rfl (by simp only [List.length_cons,List.length_nil];decide) (by simp only [lowL,AV.low,snL];rfl) ?_;conv=>whnf
  repeat' first|((first|(with_reducible apply XBr.ff)|(first|refine zb.ret hgr ?_|refine zb.ret hwd ?_));conv=>whnf)|fail
  refine Walk.place (Walk.place ?_)
  apply Walk.drawX za zd [] [4,5,6,7] (fun fl=>match fl with
   | [a,b,x,y]=>[(bif a then .cells (bif x then snC (ownS s) else rsZ') else .free),(bif b then .cells (bif y then rsC s else rsZ') else .free)]
   | _=>[]) [_,_,_,_,.ptr 0 0,.ptr 1 0,_,_] (by kernel_rfl) rfl
  ·skip
   repeat' first|((with_reducible first|apply Chk.go|apply ChkA.go);conv=>whnf)|(with_reducible first|apply XAnd.mk|exact trivial)|(exact zg.mk rfl rfl)|((first|refine zb.ret how ?_|refine zb.ret hth ?_);conv=>whnf)|(first|((refine zt.at 0 rfl ?_);(conv=>whnf);exact zg.mk rfl rfl)|((refine zt.at 1 rfl ?_);(conv=>whnf);exact zg.mk rfl rfl))|fail
  ·skip
   repeat' first|((with_reducible first|apply Chk.go|apply ChkF.go|apply ChkB.go);conv=>whnf)|(with_reducible first|apply XAnd.mk|exact trivial)|(exact zg.mk rfl rfl)|((first|refine zb.ret how ?_|refine zb.ret hth ?_);conv=>whnf)|(first|((refine zt.at 0 rfl ?_);(conv=>whnf);exact zg.mk rfl rfl)|((refine zt.at 1 rfl ?_);(conv=>whnf);exact zg.mk rfl rfl))|fail
  conv=>whnf
  repeat' first|((with_reducible first|refine XBr.y2 fun h=>?_|refine XBr.n2 fun h=>?_|refine XBr.bne (fun h=>?_) fun h=>?_) <;> conv=>whnf)|((first|refine zb.ret hck ?_|refine zb.ret hSt ?_|refine zb.ret hBe ?_|refine zb.ret hTu ?_|refine zb.ret hTo ?_|refine zb.ret hSp ?_);conv=>whnf)|fail
  refine Walk.norm za [] [(3,_),(7,_),(9,_),(10,_),(11,_),(12,_),(13,_),(14,_),(15,_),(16,_),(17,_),(18,_),(19,_),(20,_),(21,_)] ⟨rfl,rfl,rfl,rfl,rfl,rfl,rfl,rfl,rfl,rfl,rfl,rfl,rfl,rfl,rfl,trivial⟩ ?_
  conv=>whnf
  repeat' first|((with_reducible first|apply XBr.tt|refine XBr.y1 fun h=>?_|refine XBr.n1 fun h=>?_|refine XBr.beq (fun h=>?_) fun h=>?_) <;> conv=>whnf)|((first|refine zb.ret hsa ?_|refine zb.ret zA ?_);conv=>whnf)|fail
  exact XOut.bool rfl
 have ok:=zO.1 h0
 have hL:=za0 ok hws
 have h1:=ok.h1;have b1:=ok.b1;have p2:=ok.p2;have l1:=ok.l1;have l2:=ok.l2
 have hal:=ym ok
 rw [h0] at hck
 have hrm:=vr s hb ok (by omega)
 have hac:=qI s (by have:=ok.t2;omega)
 obtain ⟨P0,hP0⟩ : ∃ P0 : Nat,s.places = P0:=⟨s.places.toNat,by omega⟩
 obtain ⟨L0,hL0⟩ : ∃ L0 : Nat,s.last = L0:=⟨s.last.toNat,by omega⟩
 obtain ⟨n1,n2,hSt,hS1,hS3⟩:=zbl s hb ok m
 obtain ⟨n3,n4,hTo,hO1,hO3⟩:=zc3 s hb ok m
 obtain ⟨n5,n6,n7,hSp,hP1,hP3⟩:=zdv s hb ok m
 obtain ⟨n8,n9,hTu,hT1,hT3⟩:=zcP s hb ok l
 have hBe:=zc1 s hb ok
 obtain ⟨y1,hy1⟩ : ∃ y,y = bs1 (bstE s):=⟨_,rfl⟩
 obtain ⟨y2,hy2⟩ : ∃ y,y = bs2 (bstE s):=⟨_,rfl⟩
 obtain ⟨y3,hy3⟩ : ∃ y,y = bs3 (bstE s):=⟨_,rfl⟩
 rw [<- hy1,<- hy2,<- hy3] at hBe
 have hrt : Comp Tryz.prog 102 [rsA s,.int .i64 s.home] (rsA (tolS s s.home.toNat)):=by
  have:=zbI s ok s.home.toNat (by omega)
  rw [show natA s.home.toNat = .int .i64 s.home by unfold natA;rw [Int.toNat_of_nonneg h1.1]] at this
  exact this
 have hTl : (wrT s).length <= 5:=by unfold wrT;rw [gA];omega
 refine Comp.body (T:=tab) (res:=[.tmp 6]) za [] Tryz.func13 rfl (by kernel_rfl) Tryz.ntmps13 rfl (by simp only [List.length_cons,List.length_nil];decide) (by simp only [lowL,AV.low,snL];rfl) ?_;conv=>whnf
 repeat' first|((first|(with_reducible apply XBr.ff)|(first|refine zb.ret hgr ?_|refine zb.ret hwd ?_));conv=>whnf)|fail
 refine Walk.place (Walk.place ?_)
 apply Walk.drawX za zd [] [4,5,6,7] (fun fl=>match fl with
  | [a,b,x,y]=>[(bif a then .cells (bif x then snC (ownS s) else rsZ') else .free),(bif b then .cells (bif y then rsC s else rsZ') else .free)]
  | _=>[]) [_,_,_,_,.ptr 0 0,.ptr 1 0,_,_] (by kernel_rfl) rfl
 ·skip
  repeat' first|((with_reducible first|apply Chk.go|apply ChkA.go);conv=>whnf)|(with_reducible first|apply XAnd.mk|exact trivial)|(exact zg.mk rfl rfl)|((first|refine zb.ret how ?_|refine zb.ret hth ?_);conv=>whnf)|(first|((refine zt.at 0 rfl ?_);(conv=>whnf);exact zg.mk rfl rfl)|((refine zt.at 1 rfl ?_);(conv=>whnf);exact zg.mk rfl rfl))|fail
 ·skip
  repeat' first|((with_reducible first|apply Chk.go|apply ChkF.go|apply ChkB.go);conv=>whnf)|(with_reducible first|apply XAnd.mk|exact trivial)|(exact zg.mk rfl rfl)|((first|refine zb.ret how ?_|refine zb.ret hth ?_);conv=>whnf)|(first|((refine zt.at 0 rfl ?_);(conv=>whnf);exact zg.mk rfl rfl)|((refine zt.at 1 rfl ?_);(conv=>whnf);exact zg.mk rfl rfl))|fail
 conv=>whnf
 repeat' first|((with_reducible first|refine XBr.y2 fun h=>?_|refine XBr.n2 fun h=>?_|refine XBr.bne (fun h=>?_) fun h=>?_|refine XInt.a ?_) <;> conv=>whnf)|((first|refine zb.ret hck ?_|refine zb.ret hSt ?_|refine zb.ret hBe ?_|refine zb.ret hTu ?_|refine zb.ret hTo ?_|refine zb.ret hSp ?_|refine zb.ret hrm ?_);conv=>whnf)|fail
 refine Walk.loopK za [] [(1,_),(2,_),(3,_),(7,_),(8,_),(10,_),(11,_),(12,_),(13,_),(14,_),(15,_),(16,_),(17,_),(18,_),(19,_),(20,_),(21,_),(22,_),(144,_)] ⟨rfl,rfl,rfl,rfl,rfl,rfl,rfl,rfl,rfl,rfl,rfl,rfl,rfl,rfl,rfl,rfl,rfl,rfl,rfl,trivial⟩ (fun k : Nat=>k <= L0 + 1) (fun k=>[(9,.int .i64 (bs3 (bstK s k))),(23,.int .i64 (bs1 (bstK s k))),(24,.int .i64 (bs2 (bstK s k))),(145,natA k)]) (fun k=>[.cells (snC (ownS s)),.cells (rsC s)]) (fun k=>L0 + 1 - k) 0 (Nat.zero_le _) rfl ⟨rfl,rfl,rfl,rfl,trivial⟩ ?_
 intro k hk
 have hnx : bstK s (k + 1) = if (bstK s k).2 < zR s k then (k,zR s k) else bstK s k:=rfl
 have hge:=zb0 s k
 have hend : k = L0 + 1 -> bstE s = bstK s k:=fun h=>by unfold bstE;rw [hL0,h];rfl
 generalize bstK s k = bb at hnx hge hend
 obtain ⟨ba,bv⟩:=bb
 dsimp only at hnx hge
 obtain ⟨x9,hx9⟩ : ∃ x,x = bs3 (ba,bv):=⟨_,rfl⟩
 obtain ⟨x23,hx23⟩ : ∃ x,x = bs1 (ba,bv):=⟨_,rfl⟩
 obtain ⟨x24,hx24⟩ : ∃ x,x = bs2 (ba,bv):=⟨_,rfl⟩
 rw [<- hx9,<- hx23,<- hx24]
 conv=>whnf
 by_cases hlt : k < L0 + 1
 ·have hs1:=jD s ok (by omega) k (by omega)
  have hz1:=startZ_lo (s:=s) (m:=k)
  generalize zR s k = zz at hs1 hnx hz1
  have hq9 : bv = -1 -> x9 = 6:=fun h=>by rw [hx9];exact if_pos h
  have hq24 : bv ≠ -1 -> x24 = bv /\ x9 = 0:=fun h=>by rw [hx9,hx24];exact ⟨if_neg h,if_neg h⟩
  by_cases hup : bv < zz
  ·rw [if_pos hup] at hnx
   have hb3 : bs3 (bstK s (k + 1)) = 0:=by rw [hnx];exact if_neg (show zz ≠ -1 by omega)
   have hb1 : bs1 (bstK s (k + 1)) = (k : Int):=by rw [hnx];exact if_neg (show zz ≠ -1 by omega)
   have hb2 : bs2 (bstK s (k + 1)) = zz:=by rw [hnx];exact if_neg (show zz ≠ -1 by omega)
   by_cases hv1 : bv = -1
   ·have:=hq9 hv1
    repeat' first|((with_reducible first|apply XBr.tt|refine XBr.y fun h=>?_|refine XBr.n fun h=>?_|refine XBr.dec (fun h=>?_) fun h=>?_|refine XBr.y2 fun h=>?_|refine XBr.n2 fun h=>?_|refine XBr.bne (fun h=>?_) fun h=>?_|refine XInt.a ?_) <;> conv=>whnf)|((refine zb.ret hs1 ?_);conv=>whnf)|fail
    all_goals exact zj.go (k + 1) (by omega) (by omega) rfl ⟨rfl,rfl,rfl,rfl,rfl,rfl,rfl,rfl,rfl,rfl,rfl,rfl,rfl,rfl,rfl,rfl,rfl,rfl,rfl,(by rw [hb3];rfl),(by rw [hb1];rfl),(by rw [hb2];rfl),rfl,trivial⟩
   ·have:=hq24 hv1
    repeat' first|((with_reducible first|apply XBr.tt|apply XBr.ff|refine XBr.y fun h=>?_|refine XBr.n fun h=>?_|refine XBr.dec (fun h=>?_) fun h=>?_|refine XBr.y2 fun h=>?_|refine XBr.n2 fun h=>?_|refine XBr.bne (fun h=>?_) fun h=>?_|refine XInt.a ?_) <;> conv=>whnf)|((refine zb.ret hs1 ?_);conv=>whnf)|fail
    all_goals exact zj.go (k + 1) (by omega) (by omega) rfl ⟨rfl,rfl,rfl,rfl,rfl,rfl,rfl,rfl,rfl,rfl,rfl,rfl,rfl,rfl,rfl,rfl,rfl,rfl,rfl,(by rw [hb3];rfl),(by rw [hb1];rfl),(by rw [hb2];rfl),rfl,trivial⟩
  ·rw [if_neg hup] at hnx
   by_cases hv1 : bv = -1
   ·have:=hq9 hv1
    repeat' first|((with_reducible first|apply XBr.ff|refine XBr.y fun h=>?_|refine XBr.n fun h=>?_|refine XBr.dec (fun h=>?_) fun h=>?_|refine XInt.a ?_) <;> conv=>whnf)|((refine zb.ret hs1 ?_);conv=>whnf)|fail
    all_goals exact zj.go (k + 1) (by omega) (by omega) rfl ⟨rfl,rfl,rfl,rfl,rfl,rfl,rfl,rfl,rfl,rfl,rfl,rfl,rfl,rfl,rfl,rfl,rfl,rfl,rfl,(by rw [hnx,<- hx9];rfl),(by rw [hnx,<- hx23];rfl),(by rw [hnx,<- hx24];rfl),rfl,trivial⟩
   ·have:=hq24 hv1
    repeat' first|((with_reducible first|apply XBr.tt|apply XBr.ff|refine XBr.y fun h=>?_|refine XBr.n fun h=>?_|refine XBr.dec (fun h=>?_) fun h=>?_|refine XBr.y2 fun h=>?_|refine XBr.n2 fun h=>?_|refine XBr.bne (fun h=>?_) fun h=>?_|refine XInt.a ?_) <;> conv=>whnf)|((refine zb.ret hs1 ?_);conv=>whnf)|fail
    all_goals exact zj.go (k + 1) (by omega) (by omega) rfl ⟨rfl,rfl,rfl,rfl,rfl,rfl,rfl,rfl,rfl,rfl,rfl,rfl,rfl,rfl,rfl,rfl,rfl,rfl,rfl,(by rw [hnx,<- hx9];rfl),(by rw [hnx,<- hx23];rfl),(by rw [hnx,<- hx24];rfl),rfl,trivial⟩
 have hend:=hend (by omega)
 rw [hend] at hy1 hy2 hy3
 obtain rfl : x9 = y3:=hx9.trans hy3.symm
 obtain rfl : x23 = y1:=hx23.trans hy1.symm
 obtain rfl : x24 = y2:=hx24.trans hy2.symm
 clear hnx hge hend hx9 hx23 hx24 hy1 hy2 hy3
 obtain rfl : k = L0 + 1:=by omega
 by_cases hl : 1 <= l /\ l <= allN s
 rotate_left
 ·obtain ⟨hn8,hn9⟩:=hT3 hl
  by_cases hl1 : 1 <= l
  all_goals
   by_cases hm : ¬ (0 <= m /\ m <= s.last)
   ·obtain ⟨hn1,hn2⟩:=hS3 hm
    obtain ⟨hn3,hn4⟩:=hO3 hm
    obtain ⟨hn5,hn6,hn7⟩:=hP3 hm
    repeat' first|((with_reducible first|apply XBr.tt|apply XBr.ff|refine XBr.y fun h=>?_|refine XBr.n fun h=>?_|refine XBr.dec (fun h=>?_) fun h=>?_|refine XBr.y2 fun h=>?_|refine XBr.n2 fun h=>?_|refine XBr.bne (fun h=>?_) fun h=>?_) <;> conv=>whnf)|((refine zb.ret hac ?_);conv=>whnf)|fail
    all_goals
     refine Walk.norm za [] [(3,_),(7,_),(10,_),(11,_),(17,_),(18,_),(19,_),(20,_),(21,_)] ⟨rfl,rfl,rfl,rfl,rfl,rfl,rfl,rfl,rfl,trivial⟩ ?_
     conv=>whnf
     repeat' first|((with_reducible first|apply XBr.tt|refine XBr.y1 fun h=>?_|refine XBr.n1 fun h=>?_|refine XBr.beq (fun h=>?_) fun h=>?_) <;> conv=>whnf)|((first|refine zb.ret hsa ?_|refine zb.ret zA ?_);conv=>whnf)|fail
     exact XOut.bool rfl
   have hm:=Classical.not_not.1 hm
   have hmn : natA m.toNat = AV.int .i64 m:=by unfold natA;rw [Int.toNat_of_nonneg hm.1]
   obtain ⟨hn1,hn2⟩:=hS1 hm
   obtain ⟨hn3,hn4⟩:=hO1 hm
   obtain ⟨hn5,hn6,hn7⟩:=hP1 hm
   have hst:=jD s ok (by omega) m.toNat (by omega)
   have hst2:=jD (tolS s s.home.toNat) (jY ok (by omega)) (by show s.last <= 59;omega) m.toNat (by show _ <= s.last;omega)
   have hmt2:=vr (tolS s s.home.toNat) (zaM hb _) (jY ok (by omega)) (by show s.last <= 59;omega)
   rw [hmn,<- hn1] at hst
   rw [hmn,<- hn3] at hst2
   repeat' first|((with_reducible first|apply XBr.tt|apply XBr.ff|refine XBr.y fun h=>?_|refine XBr.n fun h=>?_|refine XBr.dec (fun h=>?_) fun h=>?_|refine XBr.y2 fun h=>?_|refine XBr.n2 fun h=>?_|refine XBr.bne (fun h=>?_) fun h=>?_|apply Chk.go|apply ChkA.go|apply ChkF.go|apply ChkB.go|apply zq.mk) <;> conv=>whnf)|(with_reducible first|apply XAnd.mk|exact trivial)|(exact zg.mk rfl rfl)|(apply Walk.drawN (id:=39) za zd [] [] (hsU _) [_,_,_,_,_,_,_,_,_,_,_,_,_,_,_,_,_,_,_,_,_,_,_,_,_,_,_] (by kernel_rfl) rfl)|((first|refine zb.ret hac ?_|refine zb.ret hrt ?_|refine zb.ret hst ?_|refine zb.ret hst2 ?_|refine zb.ret hmt2 ?_);conv=>whnf)|fail
   refine Walk.loopGK za [] [(1,_),(3,_),(7,_),(8,_),(19,_),(20,_),(291,_)] ⟨rfl,rfl,rfl,rfl,rfl,rfl,rfl,trivial⟩ (fun k : Nat=>k <= P0) (fun k=>[(30,.int .i64 (spyK s m.toNat k).1),(31,.int .i64 (spyK s m.toNat k).2),(292,natA k)]) (fun k=>[.cells (snC (ownS s)),.cells (rsC s),.cells (rsC (tolS s s.home.toNat))]) (fun k=>P0 - k) 0 (Nat.zero_le _) rfl ⟨rfl,rfl,rfl,trivial⟩ ?_ (fun _ _=>(show (3 : Nat) <= 3 from Nat.le_refl 3)) ?_
   ·intro k _
    refine ⟨fun z hz=>?_,fun z hz=>?_⟩
    ·simp only [List.mem_cons,List.not_mem_nil,or_false] at hz
     rcases hz with rfl | rfl | rfl <;> first|exact snCL _|exact rsCL _
    ·simp only [List.cons_append,List.nil_append,List.mem_cons,List.not_mem_nil,or_false] at hz
     rcases hz with rfl | rfl | rfl | rfl | rfl | rfl | rfl | rfl | rfl | rfl <;> first | rfl|exact snCL _
   intro k hk
   have hnx : spyK s m.toNat (k + 1) = if (k : Int) = s.home then spyK s m.toNat k else if (spyK s m.toNat k).1 = -1 \/ (spyK s m.toNat k).2 < zR (tolS s k) m.toNat then ((k : Int),zR (tolS s k) m.toNat) else spyK s m.toNat k:=rfl
   have hge:=gK s m.toNat k
   have hend : k = P0 -> spyE s m.toNat = spyK s m.toNat k:=fun h=>by unfold spyE;rw [hP0,h];rfl
   generalize spyK s m.toNat k = bb at hnx hge hend
   obtain ⟨ba,bv⟩:=bb
   dsimp only at hnx hge ⊢
   conv=>whnf
   by_cases hltp : k < P0
   ·have hrt2:=zbI s ok k (by omega)
    have hst3:=jD (tolS s k) (jY ok (by omega)) (by show s.last <= 59;omega) m.toNat (by show _ <= s.last;omega)
    have hmt3:=vr (tolS s k) (zaM hb _) (jY ok (by omega)) (by show s.last <= 59;omega)
    rw [hmn] at hst3
    generalize zR (tolS s k) m.toNat = zz at hst3 hnx
    by_cases hkh : (k : Int) = s.home
    ·rw [if_pos hkh] at hnx
     repeat' first|((with_reducible first|apply XBr.ff|refine XBr.y fun h=>?_|refine XBr.n fun h=>?_|refine XBr.dec (fun h=>?_) fun h=>?_|refine XBr.y2 fun h=>?_|refine XBr.n2 fun h=>?_|refine XBr.bne (fun h=>?_) fun h=>?_|refine XInt.a ?_|apply Chk.go|apply ChkA.go|apply ChkF.go|apply ChkB.go|apply zq.mk) <;> conv=>whnf)|(with_reducible first|apply XAnd.mk|exact trivial)|(exact zg.mk rfl rfl)|(apply Walk.drawN (id:=46) za zd [] [] (hsU _) [_,_,_,_,_,_] (by kernel_rfl) rfl)|((first|refine zb.ret hrt2 ?_|refine zb.ret hst3 ?_|refine zb.ret hmt3 ?_);conv=>whnf)|fail
     exact zl.go (k + 1) [.cells (rsC (tolS s k))] (by omega) (by omega) rfl ⟨rfl,rfl,rfl,rfl,rfl,rfl,rfl,(by rw [hnx];rfl),(by rw [hnx];rfl),rfl,trivial⟩
    rw [if_neg hkh] at hnx
    by_cases hup : ba = -1 \/ bv < zz
    ·rw [if_pos hup] at hnx
     repeat' first|((with_reducible first|apply XBr.tt|apply XBr.ff|refine XBr.y fun h=>?_|refine XBr.n fun h=>?_|refine XBr.dec (fun h=>?_) fun h=>?_|refine XBr.y2 fun h=>?_|refine XBr.n2 fun h=>?_|refine XBr.bne (fun h=>?_) fun h=>?_|refine XInt.a ?_|apply Chk.go|apply ChkA.go|apply ChkF.go|apply ChkB.go|apply zq.mk) <;> conv=>whnf)|(with_reducible first|apply XAnd.mk|exact trivial)|(exact zg.mk rfl rfl)|(apply Walk.drawN (id:=46) za zd [] [] (hsU _) [_,_,_,_,_,_] (by kernel_rfl) rfl)|((first|refine zb.ret hrt2 ?_|refine zb.ret hst3 ?_|refine zb.ret hmt3 ?_);conv=>whnf)|fail
     all_goals exact zl.go (k + 1) [.cells (rsC (tolS s k))] (by omega) (by omega) rfl ⟨rfl,rfl,rfl,rfl,rfl,rfl,rfl,(by rw [hnx];rfl),(by rw [hnx];rfl),rfl,trivial⟩
    ·rw [if_neg hup] at hnx
     repeat' first|((with_reducible first|apply XBr.tt|apply XBr.ff|refine XBr.y fun h=>?_|refine XBr.n fun h=>?_|refine XBr.dec (fun h=>?_) fun h=>?_|refine XBr.y2 fun h=>?_|refine XBr.n2 fun h=>?_|refine XBr.bne (fun h=>?_) fun h=>?_|refine XInt.a ?_|apply Chk.go|apply ChkA.go|apply ChkF.go|apply ChkB.go|apply zq.mk) <;> conv=>whnf)|(with_reducible first|apply XAnd.mk|exact trivial)|(exact zg.mk rfl rfl)|(apply Walk.drawN (id:=46) za zd [] [] (hsU _) [_,_,_,_,_,_] (by kernel_rfl) rfl)|((first|refine zb.ret hrt2 ?_|refine zb.ret hst3 ?_|refine zb.ret hmt3 ?_);conv=>whnf)|fail
     all_goals exact zl.go (k + 1) [.cells (rsC (tolS s k))] (by omega) (by omega) rfl ⟨rfl,rfl,rfl,rfl,rfl,rfl,rfl,(by rw [hnx];rfl),(by rw [hnx];rfl),rfl,trivial⟩
   have hend:=hend (by omega)
   rw [hend] at hn5 hn6
   dsimp only at hn5 hn6
   repeat' first|((with_reducible first|apply XBr.tt|refine XBr.y fun h=>?_|refine XBr.n fun h=>?_|refine XBr.dec (fun h=>?_) fun h=>?_|refine XBr.y1 fun h=>?_|refine XBr.n1 fun h=>?_|refine XBr.beq (fun h=>?_) fun h=>?_) <;> conv=>whnf)|((first|refine zb.ret hsa ?_|refine zb.ret zA ?_);conv=>whnf)|fail
   exact XOut.bool rfl
 obtain ⟨hn8,hn9⟩:=hT1 hl
 repeat' first|((with_reducible first|apply XBr.tt|apply XBr.ff|refine XBr.y fun h=>?_|refine XBr.n fun h=>?_|refine XBr.dec (fun h=>?_) fun h=>?_|refine XBr.y2 fun h=>?_|refine XBr.n2 fun h=>?_|refine XBr.bne (fun h=>?_) fun h=>?_|refine XInt.a ?_) <;> conv=>whnf)|((refine zb.ret hac ?_);conv=>whnf)|fail
 refine Walk.loopK za [] [(1,_),(2,_),(3,_),(7,_),(8,_),(10,_),(11,_),(15,_),(16,_),(17,_),(18,_),(19,_),(20,_),(21,_),(22,_),(189,_)] ⟨rfl,rfl,rfl,rfl,rfl,rfl,rfl,rfl,rfl,rfl,rfl,rfl,rfl,rfl,rfl,rfl,trivial⟩ (fun k : Nat=>k <= L0 + 1) (fun k=>[(9,.int .i64 (oE (lstK s l.toNat k))),(27,.int .i64 (oN (lstK s l.toNat k))),(190,natA k)]) (fun k=>[.cells (snC (ownS s)),.cells (rsC s)]) (fun k=>L0 + 1 - k) 0 (Nat.zero_le _) rfl ⟨rfl,rfl,rfl,trivial⟩ ?_
 intro k hk
 have hnx : lstK s l.toNat (k + 1) = if 0 <= zi s ⟨s.bed.toNat,k,l.toNat⟩ then some k else lstK s l.toNat k:=rfl
 have hend : k = L0 + 1 -> lstK s l.toNat (s.last.toNat + 1) = lstK s l.toNat k:=fun h=>by rw [hL0,h];rfl
 generalize lstK s l.toNat k = oo at hnx hend
 obtain ⟨x9,hx9⟩ : ∃ x,x = oE oo:=⟨_,rfl⟩
 obtain ⟨x27,hx27⟩ : ∃ x,x = oN oo:=⟨_,rfl⟩
 rw [<- hx9,<- hx27]
 conv=>whnf
 by_cases hlt : k < L0 + 1
 ·have hv : vld s ⟨s.bed.toNat,k,l.toNat⟩:=⟨by show ((s.bed.toNat : Nat) : Int) < s.places;omega,by show (k : Int) <= s.last;omega,by show l.toNat <= allN s;omega⟩
  obtain ⟨g1,g2,g3,-,-⟩:=(wrT_ok ok (by omega)).at hv
  have hw:=zbZ ok hv
  dsimp only at g1 g2 g3
  have hw2 : zi s ⟨s.bed.toNat,k,l.toNat⟩ = (((wrT s).getD s.bed.toNat default).2.getD k default).2.getD l.toNat default:=hw.symm
  rw [hw2] at hnx
  have e2 : (((wrT s).map rsT).length : Int) = (wrT s).length:=by rw [List.length_map]
  have e3 : ((((wrT s).getD s.bed.toNat default).2.map rwA).length : Int) = ((wrT s).getD s.bed.toNat default).2.length:=by rw [List.length_map]
  have e4 : ((ints (((wrT s).getD s.bed.toNat default).2.getD k default).2).length : Int) = (((wrT s).getD s.bed.toNat default).2.getD k default).2.length:=by rw [zK]
  by_cases hup : 0 <= (((wrT s).getD s.bed.toNat default).2.getD k default).2.getD l.toNat default
  ·rw [if_pos hup] at hnx
   repeat' first|((with_reducible first|refine XBr.y fun h=>?_|refine XBr.n fun h=>?_|refine XBr.dec (fun h=>?_) fun h=>?_|refine XInt.a ?_) <;> conv=>whnf)|((first|refine XIx.a ?_|refine XIx.b ?_);conv=>whnf)|fail
   exact zj.go (k + 1) (by omega) (by omega) rfl ⟨rfl,rfl,rfl,rfl,rfl,rfl,rfl,rfl,rfl,rfl,rfl,rfl,rfl,rfl,rfl,rfl,(by rw [hnx];rfl),(by rw [hnx];rfl),rfl,trivial⟩
  ·rw [if_neg hup] at hnx
   repeat' first|((with_reducible first|refine XBr.y fun h=>?_|refine XBr.n fun h=>?_|refine XBr.dec (fun h=>?_) fun h=>?_|refine XInt.a ?_) <;> conv=>whnf)|((first|refine XIx.a ?_|refine XIx.b ?_);conv=>whnf)|fail
   exact zj.go (k + 1) (by omega) (by omega) rfl ⟨rfl,rfl,rfl,rfl,rfl,rfl,rfl,rfl,rfl,rfl,rfl,rfl,rfl,rfl,rfl,rfl,(by rw [hnx,<- hx9];rfl),(by rw [hnx,<- hx27];rfl),rfl,trivial⟩
 have hend:=hend (by omega)
 rw [hend] at hn8 hn9
 obtain rfl : x9 = n9:=hx9.trans hn9.symm
 obtain rfl : x27 = n8:=hx27.trans hn8.symm
 clear hnx hend hx9 hx27 hn8 hn9
 by_cases hm : ¬ (0 <= m /\ m <= s.last)
 ·obtain ⟨hn1,hn2⟩:=hS3 hm
  obtain ⟨hn3,hn4⟩:=hO3 hm
  obtain ⟨hn5,hn6,hn7⟩:=hP3 hm
  repeat' ((with_reducible first|apply XBr.tt|apply XBr.ff|refine XBr.y fun h=>?_|refine XBr.n fun h=>?_|refine XBr.dec (fun h=>?_) fun h=>?_|refine XBr.y2 fun h=>?_|refine XBr.n2 fun h=>?_|refine XBr.bne (fun h=>?_) fun h=>?_) <;> conv=>whnf)
  all_goals
   refine Walk.norm za [] [(3,_),(7,_),(10,_),(11,_),(17,_),(18,_),(19,_),(20,_),(21,_)] ⟨rfl,rfl,rfl,rfl,rfl,rfl,rfl,rfl,rfl,trivial⟩ ?_
   conv=>whnf
   repeat' first|((with_reducible first|apply XBr.tt|refine XBr.y1 fun h=>?_|refine XBr.n1 fun h=>?_|refine XBr.beq (fun h=>?_) fun h=>?_) <;> conv=>whnf)|((first|refine zb.ret hsa ?_|refine zb.ret zA ?_);conv=>whnf)|fail
   exact XOut.bool rfl
 have hm:=Classical.not_not.1 hm
 have hmn : natA m.toNat = AV.int .i64 m:=by unfold natA;rw [Int.toNat_of_nonneg hm.1]
 obtain ⟨hn1,hn2⟩:=hS1 hm
 obtain ⟨hn3,hn4⟩:=hO1 hm
 obtain ⟨hn5,hn6,hn7⟩:=hP1 hm
 have hst:=jD s ok (by omega) m.toNat (by omega)
 have hst2:=jD (tolS s s.home.toNat) (jY ok (by omega)) (by show s.last <= 59;omega) m.toNat (by show _ <= s.last;omega)
 have hmt2:=vr (tolS s s.home.toNat) (zaM hb _) (jY ok (by omega)) (by show s.last <= 59;omega)
 rw [hmn,<- hn1] at hst
 rw [hmn,<- hn3] at hst2
 repeat' first|((with_reducible first|apply XBr.ff|refine XBr.y fun h=>?_|refine XBr.n fun h=>?_|refine XBr.dec (fun h=>?_) fun h=>?_|refine XBr.y2 fun h=>?_|refine XBr.n2 fun h=>?_|refine XBr.bne (fun h=>?_) fun h=>?_|apply Chk.go|apply ChkA.go|apply ChkF.go|apply ChkB.go|apply zq.mk) <;> conv=>whnf)|(with_reducible first|apply XAnd.mk|exact trivial)|(exact zg.mk rfl rfl)|(apply Walk.drawN (id:=39) za zd [] [] (hsU _) [_,_,_,_,_,_,_,_,_,_,_,_,_,_,_,_,_,_,_,_,_,_,_,_,_,_,_] (by kernel_rfl) rfl)|((first|refine zb.ret hrt ?_|refine zb.ret hst ?_|refine zb.ret hst2 ?_|refine zb.ret hmt2 ?_);conv=>whnf)|fail
 refine Walk.loopGK za [] [(1,_),(3,_),(7,_),(8,_),(19,_),(20,_),(291,_)] ⟨rfl,rfl,rfl,rfl,rfl,rfl,rfl,trivial⟩ (fun k : Nat=>k <= P0) (fun k=>[(30,.int .i64 (spyK s m.toNat k).1),(31,.int .i64 (spyK s m.toNat k).2),(292,natA k)]) (fun k=>[.cells (snC (ownS s)),.cells (rsC s),.cells (rsC (tolS s s.home.toNat))]) (fun k=>P0 - k) 0 (Nat.zero_le _) rfl ⟨rfl,rfl,rfl,trivial⟩ ?_ (fun _ _=>(show (3 : Nat) <= 3 from Nat.le_refl 3)) ?_
 ·intro k _
  refine ⟨fun z hz=>?_,fun z hz=>?_⟩
  ·simp only [List.mem_cons,List.not_mem_nil,or_false] at hz
   rcases hz with rfl | rfl | rfl <;> first|exact snCL _|exact rsCL _
  ·simp only [List.cons_append,List.nil_append,List.mem_cons,List.not_mem_nil,or_false] at hz
   rcases hz with rfl | rfl | rfl | rfl | rfl | rfl | rfl | rfl | rfl | rfl <;> first | rfl|exact snCL _
 intro k hk
 have hnx : spyK s m.toNat (k + 1) = if (k : Int) = s.home then spyK s m.toNat k else if (spyK s m.toNat k).1 = -1 \/ (spyK s m.toNat k).2 < zR (tolS s k) m.toNat then ((k : Int),zR (tolS s k) m.toNat) else spyK s m.toNat k:=rfl
 have hge:=gK s m.toNat k
 have hend : k = P0 -> spyE s m.toNat = spyK s m.toNat k:=fun h=>by unfold spyE;rw [hP0,h];rfl
 generalize spyK s m.toNat k = bb at hnx hge hend
 obtain ⟨ba,bv⟩:=bb
 dsimp only at hnx hge ⊢
 conv=>whnf
 by_cases hltp : k < P0
 ·have hrt2:=zbI s ok k (by omega)
  have hst3:=jD (tolS s k) (jY ok (by omega)) (by show s.last <= 59;omega) m.toNat (by show _ <= s.last;omega)
  have hmt3:=vr (tolS s k) (zaM hb _) (jY ok (by omega)) (by show s.last <= 59;omega)
  rw [hmn] at hst3
  generalize zR (tolS s k) m.toNat = zz at hst3 hnx
  by_cases hkh : (k : Int) = s.home
  ·rw [if_pos hkh] at hnx
   repeat' first|((with_reducible first|apply XBr.ff|refine XBr.y fun h=>?_|refine XBr.n fun h=>?_|refine XBr.dec (fun h=>?_) fun h=>?_|refine XBr.y2 fun h=>?_|refine XBr.n2 fun h=>?_|refine XBr.bne (fun h=>?_) fun h=>?_|refine XInt.a ?_|apply Chk.go|apply ChkA.go|apply ChkF.go|apply ChkB.go|apply zq.mk) <;> conv=>whnf)|(with_reducible first|apply XAnd.mk|exact trivial)|(exact zg.mk rfl rfl)|(apply Walk.drawN (id:=46) za zd [] [] (hsU _) [_,_,_,_,_,_] (by kernel_rfl) rfl)|((first|refine zb.ret hrt2 ?_|refine zb.ret hst3 ?_|refine zb.ret hmt3 ?_);conv=>whnf)|fail
   exact zl.go (k + 1) [.cells (rsC (tolS s k))] (by omega) (by omega) rfl ⟨rfl,rfl,rfl,rfl,rfl,rfl,rfl,(by rw [hnx];rfl),(by rw [hnx];rfl),rfl,trivial⟩
  rw [if_neg hkh] at hnx
  by_cases hup : ba = -1 \/ bv < zz
  ·rw [if_pos hup] at hnx
   repeat' first|((with_reducible first|apply XBr.tt|apply XBr.ff|refine XBr.y fun h=>?_|refine XBr.n fun h=>?_|refine XBr.dec (fun h=>?_) fun h=>?_|refine XBr.y2 fun h=>?_|refine XBr.n2 fun h=>?_|refine XBr.bne (fun h=>?_) fun h=>?_|refine XInt.a ?_|apply Chk.go|apply ChkA.go|apply ChkF.go|apply ChkB.go|apply zq.mk) <;> conv=>whnf)|(with_reducible first|apply XAnd.mk|exact trivial)|(exact zg.mk rfl rfl)|(apply Walk.drawN (id:=46) za zd [] [] (hsU _) [_,_,_,_,_,_] (by kernel_rfl) rfl)|((first|refine zb.ret hrt2 ?_|refine zb.ret hst3 ?_|refine zb.ret hmt3 ?_);conv=>whnf)|fail
   all_goals exact zl.go (k + 1) [.cells (rsC (tolS s k))] (by omega) (by omega) rfl ⟨rfl,rfl,rfl,rfl,rfl,rfl,rfl,(by rw [hnx];rfl),(by rw [hnx];rfl),rfl,trivial⟩
  ·rw [if_neg hup] at hnx
   repeat' first|((with_reducible first|apply XBr.tt|apply XBr.ff|refine XBr.y fun h=>?_|refine XBr.n fun h=>?_|refine XBr.dec (fun h=>?_) fun h=>?_|refine XBr.y2 fun h=>?_|refine XBr.n2 fun h=>?_|refine XBr.bne (fun h=>?_) fun h=>?_|refine XInt.a ?_|apply Chk.go|apply ChkA.go|apply ChkF.go|apply ChkB.go|apply zq.mk) <;> conv=>whnf)|(with_reducible first|apply XAnd.mk|exact trivial)|(exact zg.mk rfl rfl)|(apply Walk.drawN (id:=46) za zd [] [] (hsU _) [_,_,_,_,_,_] (by kernel_rfl) rfl)|((first|refine zb.ret hrt2 ?_|refine zb.ret hst3 ?_|refine zb.ret hmt3 ?_);conv=>whnf)|fail
   all_goals exact zl.go (k + 1) [.cells (rsC (tolS s k))] (by omega) (by omega) rfl ⟨rfl,rfl,rfl,rfl,rfl,rfl,rfl,(by rw [hnx];rfl),(by rw [hnx];rfl),rfl,trivial⟩
 have hend:=hend (by omega)
 rw [hend] at hn5 hn6
 dsimp only at hn5 hn6
 repeat' first|((with_reducible first|apply XBr.tt|refine XBr.y fun h=>?_|refine XBr.n fun h=>?_|refine XBr.dec (fun h=>?_) fun h=>?_|refine XBr.y1 fun h=>?_|refine XBr.n1 fun h=>?_|refine XBr.beq (fun h=>?_) fun h=>?_) <;> conv=>whnf)|((first|refine zb.ret hsa ?_|refine zb.ret zA ?_);conv=>whnf)|fail
 exact XOut.bool rfl
end GA
end
section
namespace GA
open Go Go.RowKit Go.Proofs
theorem lawsF : jg where
 sands:=zcY
 steps:=zcV
 worth:=zch
 tables:=zbV
 starts:=zbf
 awake:=zA
theorem zc4 : Comp Tryz.prog 3 [] (.bool true):=fsLim lawsF (fsSome lawsF (fsMany lawsF))
end GA
end
