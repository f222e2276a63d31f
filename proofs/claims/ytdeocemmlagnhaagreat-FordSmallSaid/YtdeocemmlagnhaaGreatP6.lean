/- Part 6 of a proof: F86, F83, F74m, F87, F96, F92, F93, F94, F95, F88, F44, F51, F55, F90, F89, F84, F7, F20, F21. -/
import Derived.Test.YtdeocemmlagnhaaGreatP5
set_option linter.unusedVariables false
set_option linter.unusedSimpArgs false
set_option maxRecDepth 8000
section
namespace GA
open Go Go.RowKit Go.Proofs
theorem zb.giveI {P : Program} {f : FuncId} {rs : List AV} {te n : Nat} {nl : Bool} {l : List Int} {H : List Blk} {k : AV -> List Blk -> Prop} (j : Nat) (H' : List Blk) (hj : H.length = j) (hH : H ++ [.grow te nl (ints l)] = H')
  (x : kC P f rs (.gr 0 n) [.grow te nl (ints l)]) (hk : k (.gr j n) H') : zb P f rs H k:=by
 subst hj;subst hH
 refine zb.give x ?_
 rw [show ([Blk.grow te nl (ints l)] : List Blk).map (Blk.ren (H.length + ·)) = [.grow te nl (ints l)] from congrArg (fun y=>[y]) (zcG _ _ _ _)]
 exact hk
def mdT (M P0 p : Nat) (e : AV) : List AV:=vecF P0 fun q=>if q < p then .gr (rowI M q) M else if q = p then e else .sl true []
def mdB (M N P0 p m : Nat) (e : AV) (W : T3 Int) (j : Nat) : Blk:=if j = 0 then .grow 23 false (mdT M P0 p e) else memB M N p m W j
def md0 (M N P0 p : Nat) (W : T3 Int) : List Blk:=vecF (rowI M p) (mdB M N P0 p 0 (.sl true []) W)
def md1 (M N P0 p m : Nat) (W : T3 Int) : List Blk:=vecF (rowI M p + 1 + m) (mdB M N P0 p m (.gr (rowI M p) m) W)
theorem mdT_len (M P0 p : Nat) (e : AV) : (mdT M P0 p e).length = P0:=zx _ _
theorem mdT_at {M P0 p : Nat} {e : AV} (h : p < P0) : (mdT M P0 p e)[p]? = some e:=by
 unfold mdT;rw [yg,if_pos h,if_neg (Nat.lt_irrefl p),if_pos rfl]
theorem mdT_set {M P0 p : Nat} {e : AV} (e' : AV) (h : p < P0) : (mdT M P0 p e).set p e' = mdT M P0 p e':=by
 unfold mdT;rw [yA]
 refine zB fun q _=>?_
 unfold updV
 by_cases hq : q = p
 ·rw [if_pos hq,if_neg (by omega),if_pos hq]
 ·rw [if_neg hq]
  show (if q < p then AV.gr (rowI M q) M else if q = p then e else .sl true []) = if q < p then AV.gr (rowI M q) M else if q = p then e' else .sl true []
  rw [if_neg hq,if_neg hq]
theorem mdT_one {M P0 p : Nat} {e : AV} (he : e.one = true) : ∀ x ∈ mdT M P0 p e,x.one = true:=fun x hx=>by
 obtain ⟨q,-,rfl⟩:=yd.1 hx
 split
 ·rfl
 ·split
  ·exact he
  ·rfl
theorem mdT_next (M P0 p : Nat) : mdT M P0 p (.gr (rowI M p) M) = mdT M P0 (p + 1) (.sl true []):=zB fun q _=>by
 by_cases h1 : q < p
 ·rw [if_pos h1,if_pos (by omega)]
 ·rw [if_neg h1]
  by_cases h2 : q = p
  ·rw [if_pos h2,if_pos (by omega),h2]
  ·rw [if_neg h2,if_neg (by omega)];split <;> rfl
theorem jy (M p : Nat) : 0 < rowI M p:=by unfold rowI;omega
theorem md0_t (M N P0 p : Nat) (W : T3 Int) : lget (md0 M N P0 p W) 0 = some (.grow 23 false (mdT M P0 p (.sl true []))):=by
 unfold md0;rw [kx (jy M p)];rfl
theorem md0_len (M N P0 p : Nat) (W : T3 Int) : (md0 M N P0 p W).length = rowI M p:=zx _ _
theorem md1_t (M N P0 p m : Nat) (W : T3 Int) : lget (md1 M N P0 p m W) 0 = some (.grow 23 false (mdT M P0 p (.gr (rowI M p) m))):=by
 unfold md1;rw [kx (by omega)];rfl
theorem md1_len (M N P0 p m : Nat) (W : T3 Int) : (md1 M N P0 p m W).length = celI M p m:=zx _ _
theorem md1_r (M N P0 p m : Nat) (W : T3 Int) : lget (md1 M N P0 p m W) (rowI M p) = some (.grow 22 (decide (p = p /\ m = 0)) (vecF m fun m=>.gr (celI M p m) N)):=by
 unfold md1;rw [kx (by omega)]
 unfold mdB
 rw [if_neg (by have:=jy M p;omega),jc,if_pos rfl]
theorem md0_init (M N P0 : Nat) (W : T3 Int) : md0 M N P0 0 W = [.grow 23 false (List.replicate P0 (.sl true []))]:=by
 have e : rowI M 0 = 0 + 1:=by unfold rowI;omega
 unfold md0
 rw [e,yJ,show vecF 0 (mdB M N P0 0 0 (.sl true []) W) = [] by rw [zL];rfl]
 show [Blk.grow _ false (mdT M P0 0 (.sl true []))] = _
 congr 2
 rw [<- yz]
 unfold mdT
 refine zB fun q _=>?_
 rw [if_neg (Nat.not_lt_zero q)];split <;> rfl
theorem md_row {M N P0 p : Nat} {W : T3 Int} (h : p < P0) : (md0 M N P0 p W).set 0 (.grow 23 false ((mdT M P0 p (.sl true [])).set p (.gr (rowI M p) 0))) ++ [Blk.grow 22 true []] = md1 M N P0 p 0 W:=by
 rw [mdT_set _ h]
 unfold md0 md1
 rw [yA]
 refine vo (fun i hi=>?_) ?_
 ·unfold updV mdB
  by_cases e : i = 0
  ·rw [if_pos e,if_pos e]
  ·rw [if_neg e,if_neg e,if_neg e]
 ·unfold mdB
  rw [if_neg (by have:=jy M p;omega),jc,if_pos rfl,decide_eq_true ⟨rfl,rfl⟩,zL];rfl
theorem md_app {M N P0 p m : Nat} {W : T3 Int} (hm : m < M) {b : Bool} : (((md1 M N P0 p m W ++ [Blk.grow 3 false (ints (vecF N fun l=>W p m l))]).set (rowI M p) (Blk.grow 22 (b && false) (vecF m (fun m=>AV.gr (celI M p m) N) ++ [AV.gr (celI M p m) N]))).set 0 (Blk.grow 23 false (mdT M P0 p (.gr (rowI M p) (m + 1))))) = md1 M N P0 p (m + 1) W:=by
 have h1 : md1 M N P0 p m W ++ [Blk.grow 3 false (ints (vecF N fun l=>W p m l))] = vecF (rowI M p + 1 + (m + 1)) (mdB M N P0 p m (.gr (rowI M p) m) W):=by
  unfold md1
  refine vo (fun _ _=>rfl) ?_
  have e : rowI M p + 1 + m = celI M p m:=rfl
  unfold mdB
  rw [if_neg (by omega),e,wA hm,fQ]
 rw [h1,yA,yA]
 unfold md1
 refine zB fun j hj=>?_
 unfold updV mdB
 by_cases e0 : j = 0
 ·rw [if_pos e0,if_pos e0]
 rw [if_neg e0,if_neg e0]
 by_cases e : j = rowI M p
 ·rw [if_pos e,e,jc,if_pos rfl,decide_eq_false (by omega),yJ,Bool.and_false,if_neg (by have:=jy M p;omega)]
 ·rw [if_neg e,if_neg e0]
  unfold memB
  rw [if_neg e0,if_neg e0]
  by_cases e1 : (j - 1) % (M + 1) = 0
  ·have hq : (j - 1) / (M + 1) ≠ p:=fun h=>e (qd e0 e1 h)
   rw [if_pos e1,if_pos e1,decide_eq_false (fun h=>hq h.1),decide_eq_false (fun h=>hq h.1),if_neg hq,if_neg hq]
  ·rw [if_neg e1,if_neg e1]
theorem md_next {M N P0 p : Nat} {W : T3 Int} (hM : 0 < M) : md1 M N P0 p M W = md0 M N P0 (p + 1) W:=by
 unfold md1 md0
 rw [ws]
 refine zB fun j hj=>?_
 unfold mdB
 by_cases e0 : j = 0
 ·rw [if_pos e0,if_pos e0,mdT_next]
 ·rw [if_neg e0,if_neg e0]
  unfold memB
  rw [if_neg e0,if_neg e0]
  by_cases e1 : (j - 1) % (M + 1) = 0
  ·have hq : (j - 1) / (M + 1) ≠ p + 1:=fun h=>by have:=qd e0 e1 h;rw [ws] at this;omega
   rw [if_pos e1,if_pos e1,decide_eq_false (by omega),decide_eq_false (fun h=>hq h.1),if_neg hq]
   congr 2
   split <;> rfl
  ·rw [if_neg e1,if_neg e1]
theorem md_fin {M N P0 : Nat} {W : T3 Int} (h : 0 < P0) : md0 M N P0 P0 W = memW M N P0 W:=by
 unfold md0 memW
 refine zB fun j _=>?_
 unfold mdB
 by_cases e0 : j = 0
 ·rw [if_pos e0,e0,jU,decide_eq_false (by omega)]
  congr 1
  exact zB fun q hq=>if_pos hq
 ·rw [if_neg e0]
theorem zcA {M N P0 : Nat} {W : T3 Int} : ∀ x ∈ memW M N P0 W,x.low (memW M N P0 W).length = true:=fun x hx=>by
 rw [vX]
 obtain ⟨j,hj,rfl⟩:=yd.1 hx
 unfold memB
 split
 ·show lowL _ _ = true
  rw [zw];intro y hy
  obtain ⟨q,hq,rfl⟩:=yd.1 hy
  exact decide_eq_true (zbi hq)
 ·rename_i h0
  split
  ·rename_i h1
   have hr:=qd h0 h1 rfl
   generalize (j - 1) / (M + 1) = q at hr
   have hq : q < P0:=by
    refine Classical.byContradiction fun h=>?_
    have:=q8 (M:=M) (show P0 <= q by omega)
    omega
   show lowL _ _ = true
   rw [zw,if_neg (by omega)];intro y hy
   obtain ⟨m,hm,rfl⟩:=yd.1 hy
   exact decide_eq_true (gF hq hm)
  ·exact jP _ _
set_option maxHeartbeats 4000000 in
theorem ft (s : Sn) (hb : SnB s) (ok : SnOk s) :
  kC Tryz.prog 8 [snA s] (.tup [.gr 0 s.places.toNat,.int .i64 0]) (memW (s.last.toNat + 1) (allN s + 1) s.places.toNat fun p m l=>zi s ⟨p,m,l⟩):=by
 have p1:=ok.p1;have p2:=ok.p2;have l1:=ok.l1;have l2:=ok.l2
 have hal:=ym ok
 have ho:=z4 s hb ok
 have hw:=jG s ok
 have hac:=vb s ok
 obtain ⟨P0,hP0⟩ : ∃ P0 : Nat,s.places = P0:=⟨s.places.toNat,by omega⟩
 obtain ⟨L0,hL0⟩ : ∃ L0 : Nat,s.last = L0:=⟨s.last.toNat,by omega⟩
 obtain ⟨N0,hN0⟩ : ∃ N0 : Nat,N0 = allN s + 1:=⟨_,rfl⟩
 obtain ⟨W,hW⟩ : ∃ W : T3 Int,W = fun p m l=>zi s ⟨p,m,l⟩:=⟨_,rfl⟩
 have hPt : s.places.toNat = P0:=by omega
 have hLt : s.last.toNat = L0:=by omega
 rw [hPt,hLt,<- hW,<- hN0]
 refine kC.body (T:=tab) (res:=[.tmp 2,.tmp 3]) za [] Tryz.func8 rfl (by kernel_rfl) Tryz.ntmps8 rfl (by simp only [List.length_cons,List.length_nil];decide) (by simp only [lowL,snL];rfl) (by rw [vX];show (decide (0 < _) && (true && true)) = true;rw [decide_eq_true (jy _ _)];rfl) zcA ?_;conv=>whnf
 repeat' first|((with_reducible first|refine XBr.y2 fun h=>?_|refine XBr.n2 fun h=>?_|refine XBr.bne (fun h=>?_) fun h=>?_) <;> conv=>whnf)|((first|refine zh.a ?_|refine zb.ret ho ?_|refine zb.ret hw ?_|refine zh.mk List.length_replicate ?_);conv=>whnf)|fail
 refine Walk.loopK za [] [(1,_),(2,_),(3,_),(4,_),(6,_),(24,_)] ⟨rfl,rfl,rfl,rfl,rfl,rfl,trivial⟩ (fun p : Nat=>p <= P0) (fun p=>[(7,.gr 0 P0),(25,natA p)]) (fun p=>md0 (L0 + 1) N0 P0 p W) (fun p=>P0 - p) 0 (Nat.zero_le _) (by rw [md0_init];show [Blk.grow _ _ (List.replicate P0 _)] = [Blk.grow _ _ (List.replicate s.places.toNat _)];rw [hPt]) ⟨(by show some (AV.gr 0 s.places.toNat) = some (AV.gr 0 P0);rw [hPt]),rfl,trivial⟩ ?_
 intro p hp
 obtain ⟨H,hH⟩ : ∃ H,H = md0 (L0 + 1) N0 P0 p W:=⟨_,rfl⟩
 have h0t:=md0_t (L0 + 1) N0 P0 p W
 have h0l:=md0_len (L0 + 1) N0 P0 p W
 rw [<- hH] at h0t h0l
 refine XRun.heap H hH ?_
 conv=>whnf
 by_cases hlt : p < P0
 ·skip
  repeat' ((with_reducible first|refine XBr.y fun h=>?_|refine XBr.n fun h=>?_|refine XBr.dec (fun h=>?_) fun h=>?_|refine XInt.a ?_) <;> conv=>whnf)
  refine Walk.nilRowIn 0 p 22 h0t (mdT_one rfl) (mdT_at hlt) ?_
  refine Walk.loopK za [] [(1,_),(2,_),(3,_),(4,_),(6,_),(7,_),(8,_),(24,_),(25,_),(30,_)] ⟨rfl,rfl,rfl,rfl,rfl,rfl,rfl,rfl,rfl,rfl,trivial⟩ (fun m : Nat=>m <= L0 + 1) (fun m=>[(31,natA m)]) (fun m=>md1 (L0 + 1) N0 P0 p m W) (fun m=>L0 + 1 - m) 0 (Nat.zero_le _) (by rw [h0l,hH];exact (md_row hlt).symm) ⟨rfl,trivial⟩ ?_
  intro m hm
  obtain ⟨H1,hH1⟩ : ∃ H1,H1 = md1 (L0 + 1) N0 P0 p m W:=⟨_,rfl⟩
  have h1t:=md1_t (L0 + 1) N0 P0 p m W
  have h1r:=md1_r (L0 + 1) N0 P0 p m W
  have hl1:=md1_len (L0 + 1) N0 P0 p m W
  rw [<- hH1] at h1t h1r hl1
  have hci : rowI (L0 + 1) p < celI (L0 + 1) p m:=by unfold celI;omega
  have hrp:=jy (L0 + 1) p
  refine XRun.heap H1 hH1 ?_
  conv=>whnf
  by_cases hlt2 : m < L0 + 1
  ·have hrow : List.take (((allN s : Nat) : Int) + 1 - 0).toNat (List.drop (Int.toNat 0) (List.drop ((m : Int).toNat * 16) (List.drop ((p : Int).toNat * 976) (wTab s)))) = ints (vecF N0 fun l=>W p m l):=by
    have h:=zc7 ok (p:=p) (m:=m) (by omega) (by omega)
    rw [fQ] at h
    rw [hN0,hW,<- h,List.drop_drop,List.drop_drop]
    congr 2 <;> omega
   have hcg:=clone_ig (vecF N0 fun l=>W p m l) (by rw [zx];omega)
   rw [zx] at hcg
   have hwl : (wTab s).length = 4880:=y7 _ _
   have htl : (mdT (L0 + 1) P0 p (.gr (rowI (L0 + 1) p) m)).length = P0:=mdT_len _ _ _ _
   have hte : (mdT (L0 + 1) P0 p (.gr (rowI (L0 + 1) p) m)).getD (p : Int).toNat default = .gr (rowI (L0 + 1) p) m:=by rw [Int.toNat_natCast,List.getD_eq_getElem?_getD,mdT_at hlt];rfl
   obtain ⟨H2,hH2⟩ : ∃ H2,H2 = H1 ++ [Blk.grow 3 false (ints (vecF N0 fun l=>W p m l))]:=⟨_,rfl⟩
   have h2t : lget H2 0 = some (.grow 23 false (mdT (L0 + 1) P0 p (.gr (rowI (L0 + 1) p) m))):=by rw [hH2,zo,List.getElem?_append_left (by omega),<- zo];exact h1t
   have h2r : lget H2 (rowI (L0 + 1) p) = some (.grow 22 (decide (p = p /\ m = 0)) (vecF m fun m=>.gr (celI (L0 + 1) p m) N0)):=by rw [hH2,zo,List.getElem?_append_left (by omega),<- zo];exact h1r
   have hl2 : H2.length = celI (L0 + 1) p m + 1:=by rw [hH2,List.length_append,hl1];rfl
   obtain ⟨H3,hH3⟩ : ∃ H3,H3 = H2.set (rowI (L0 + 1) p) (.grow 22 (decide (p = p /\ m = 0) && false) (vecF m (fun m=>AV.gr (celI (L0 + 1) p m) N0) ++ [AV.gr (celI (L0 + 1) p m) N0])):=⟨_,rfl⟩
   have h3t : lget H3 0 = some (.grow 23 false (mdT (L0 + 1) P0 p (.gr (rowI (L0 + 1) p) m))):=by rw [hH3,zo,List.getElem?_set_ne (by omega),<- zo];exact h2t
   have hl3 : H3.length = celI (L0 + 1) p m + 1:=by rw [hH3,List.length_set];exact hl2
   have h4 : H3.set 0 (.grow 23 false (mdT (L0 + 1) P0 p (.gr (rowI (L0 + 1) p) (m + 1)))) = md1 (L0 + 1) N0 P0 p (m + 1) W:=by rw [hH3,hH2,hH1];exact md_app hlt2
   repeat' ((with_reducible first|refine XBr.y fun h=>?_|refine XBr.n fun h=>?_|refine XBr.dec (fun h=>?_) fun h=>?_) <;> conv=>whnf)
   apply Walk.drawX za zd [] [16,18,20] (hsC [H1,H2,H3,md1 (L0 + 1) N0 P0 p (m + 1) W]) [_,_,_,_,_,_,_,_,_,_,_,_,_,_,_,_,_,_,_,_,_] (by kernel_rfl) rfl
   ·skip
    repeat' first|((with_reducible first|refine XInt.a ?_|apply Chk.go|apply ChkA.go);conv=>whnf)|(refine zh.a ?_;conv=>whnf)|(with_reducible first|apply XAnd.mk|exact trivial)|(exact zg.mk rfl rfl)|((first|refine XArr.pim (by omega) (by omega) ?_|refine zb.ret hac ?_);conv=>whnf)|(erw [h1t];conv=>whnf)|(erw [h3t];conv=>whnf)|(erw [h2r];conv=>whnf)|((first|(refine XGet.to (.gr (rowI (L0 + 1) p) m) htl.symm (by omega) hte ?_)|((refine zh.mk ⟨?_,by omega,by omega,by omega⟩ ?_);(simp only [List.length_drop,hwl];omega))|(refine zh.mk ⟨htl,rfl,by omega,by omega⟩ ?_)|((refine zb.as (congrArg (fun l=>[AV.sl false l]) hrow.symm) ?_);(refine zb.giveI (celI (L0 + 1) p m) H2 hl1 hH2.symm hcg ?_)));conv=>whnf)|((first|(refine zh.mk ⟨rfl,zx _ _,by unfold Room;constructor <;> ((try simp) <;> omega)⟩ ?_)|refine yu (H:=H2) H3 (by omega) hH3.symm ?_|refine XPut.to (mdT (L0 + 1) P0 p (.gr (rowI (L0 + 1) p) (m + 1))) htl.symm (by omega) (mdT_set _ hlt) ?_|refine yu (H:=H3) (md1 (L0 + 1) N0 P0 p (m + 1) W) (by omega) h4 ?_);conv=>whnf)|fail
   ·skip
    repeat' first|((with_reducible first|refine XInt.a ?_|apply Chk.go|apply ChkF.go|apply ChkB.go);conv=>whnf)|(with_reducible first|apply XAnd.mk|exact trivial)|(exact zg.mk rfl rfl)|((refine XArr.pim (by omega) (by omega) ?_);conv=>whnf)|(erw [h2t];conv=>whnf)|(erw [h3t];conv=>whnf)|((first|refine XGet.to (.gr (rowI (L0 + 1) p) m) htl.symm (by omega) hte ?_|refine zh.mk ⟨htl,rfl,by omega,by omega⟩ ?_);conv=>whnf)|fail
   conv=>whnf
   repeat' ((with_reducible refine XInt.a ?_);conv=>whnf)
   exact zj.go (m + 1) (by omega) (by omega) rfl ⟨rfl,rfl,rfl,rfl,rfl,rfl,rfl,rfl,rfl,rfl,rfl,trivial⟩
  obtain rfl : m = L0 + 1:=by omega
  repeat' ((with_reducible first|refine XBr.y fun h=>?_|refine XBr.n fun h=>?_|refine XBr.dec (fun h=>?_) fun h=>?_|refine XInt.a ?_) <;> conv=>whnf)
  exact zj.go (p + 1) (by omega) (by omega) (by rw [hH1];exact (md_next (by omega)).symm) ⟨rfl,rfl,rfl,rfl,rfl,rfl,rfl,rfl,trivial⟩
 obtain rfl : p = P0:=by omega
 repeat' ((with_reducible first|refine XBr.y fun h=>?_|refine XBr.n fun h=>?_|refine XBr.dec (fun h=>?_) fun h=>?_) <;> conv=>whnf)
 rw [hH,md_fin (by omega)]
 exact w7.whole (by rw [vX];show (decide (0 < _) && (true && true)) = true;rw [decide_eq_true (jy _ _)];rfl) zcA
end GA
end
section
namespace GA
open Go Go.RowKit Go.Proofs
structure jg : Prop where
 sands : ∀ (s : Sn) (p m l : Int),Comp Tryz.prog 9 [snA s,.int .i64 p,.int .i64 m,.int .i64 l] (.bool true)
 steps : ∀ (s : Sn) (p m l : Int) (t : Int × Int),-9223372036854775808 <= t.2 -> t.2 <= 9223372036854775807 -> ∀ (nl : Bool) (T : List (Int × Int)),T.length < 9223372036854775808 -> (∀ t ∈ T,-9223372036854775808 <= t.2 /\ t.2 <= 9223372036854775807) -> ∀ mi : Int,Comp Tryz.prog 10 [snA s,xA p m l,sgA t,.sl nl (T.map sgA),.int .i64 mi] (.bool true)
 worth : ∀ (s : Sn) (p m l : Int),Comp Tryz.prog 11 [snA s,xA p m l] (.bool true)
 tables : ∀ (s : Sn) (nt : Bool) (T : List Rs),Comp Tryz.prog 12 [snA s,.sl nt (T.map rsT)] (.bool true)
 starts : ∀ (s : Sn) (m l : Int),Comp Tryz.prog 13 [snA s,.int .i64 m,.int .i64 l] (.bool true)
 awake : Comp Tryz.prog 17 [] (.bool true)
theorem fsEnd (F : jg) : Walk Tryz.prog 544 none (vD 5 (theC Tryz.f3.body)) (XFn Tryz.prog tab [.tmp 0] (.bool true)) [] (stX []) []:=by
 have a1:=F.sands ⟨0,0,0,0,true,[],true,[],true,[]⟩ 0 0 0
 have a2:=F.tables ⟨0,0,0,0,true,[],true,[],true,[]⟩ true []
 have a3:=F.awake
 refine Walk.step za [] ?_
 conv=>whnf
 /-
 refine Comp.body (T:=tab) (res:=[.tmp 0]) za [] Tryz.func3 rfl (by kernel_rfl) Tryz.ntmps3 rfl (by simp only [List.length_cons,List.length_nil];decide) (by rfl) ?_;conv=>whnf
 -/
 repeat' first|((first|(first|refine zb.ret a1 ?_|refine zb.ret a2 ?_|refine zb.ret a3 ?_)|(with_reducible apply XBr.tt)|(with_reducible refine XGo.go za [] ?_));conv=>whnf)|fail
 all_goals exact XOut.bool rfl
end GA
end
section
namespace GA
open Go Go.RowKit Go.Proofs
def memS (b M N P0 : Nat) (W : T3 Int) : List Blk:=(vecF (rowI M P0) (memB M N P0 0 W)).map (Blk.ren (b + ·))
theorem wO (b M N P0 : Nat) (W : T3 Int) : (memS b M N P0 W).length = rowI M P0:=by unfold memS;rw [List.length_map,zx]
theorem qa {pre X : List Blk} {b i : Nat} (h : pre.length = b) : lget (pre ++ X) (b + i) = X[i]?:=by
 rw [zo,List.getElem?_append_right (by omega),show b + i - pre.length = i by omega]
theorem vi {pre X : List Blk} {b i : Nat} {x : Blk} (h : pre.length = b) : (pre ++ X).set (b + i) x = pre ++ X.set i x:=by
 rw [List.set_append_right _ _ (by omega),show b + i - pre.length = i by omega]
theorem yl {b M N P0 : Nat} {W : T3 Int} {i : Nat} (h : i < rowI M P0) : (memS b M N P0 W)[i]? = some ((memB M N P0 0 W i).ren (b + ·)):=by
 unfold memS
 rw [List.getElem?_map,yg,if_pos h];rfl
theorem memS_t {pre : List Blk} {b M N P0 : Nat} {W : T3 Int} (h : pre.length = b) : lget (pre ++ memS b M N P0 W) b = some (.grow 23 (decide (P0 = 0)) (vecF P0 fun p=>.gr (b + rowI M p) M)):=by
 have:=qa (X:=memS b M N P0 W) (i:=0) h
 rw [Nat.add_zero] at this
 rw [this,yl (by unfold rowI;omega),jU]
 show some (Blk.grow 23 _ (renL _ _)) = _
 rw [zI,yF];rfl
theorem memS_r {pre : List Blk} {b M N P0 : Nat} {W : T3 Int} {p : Nat} (h : pre.length = b) (hp : p < P0) : lget (pre ++ memS b M N P0 W) (b + rowI M p) = some (.grow 22 false (vecF M fun m=>.gr (b + celI M p m) N)):=by
 rw [qa h,yl (zbi hp),jc,decide_eq_false (by omega),if_neg (by omega)]
 show some (Blk.grow 22 _ (renL _ _)) = _
 rw [zI,yF];rfl
theorem vf (f : Nat -> Nat) (t : TypeId) (N : Nat) (F : Nat -> Int) : Blk.ren f (.grow t false (zvs N F)) = .grow t false (zvs N F):=Blk.ren_low (n:=0) (fun i hi=>by omega) (jP _ _)
theorem memS_c {pre : List Blk} {b M N P0 : Nat} {W : T3 Int} {p m : Nat} (h : pre.length = b) (hp : p < P0) (hm : m < M) : lget (pre ++ memS b M N P0 W) (b + celI M p m) = some (.grow 3 false (zvs N fun l=>W p m l)):=by
 rw [qa h,yl (gF hp hm),wA hm,vf]
theorem vc {pre : List Blk} {b M N P0 : Nat} {W : T3 Int} {p m l : Nat} {v : Int} (h : pre.length = b) (hp : p < P0) (hm : m < M) : (pre ++ memS b M N P0 W).set (b + celI M p m) (.grow 3 false (zvs N (updV (fun l=>W p m l) l v))) = pre ++ memS b M N P0 (upd3 W p m l v):=by
 rw [vi h]
 congr 1
 have e:=zb2 (N:=N) (W:=W) (l:=l) (v:=v) hp hm
 unfold memW at e
 unfold memS
 rw [<- vf (b + ·),<- List.map_set,e]
theorem zaR {pre : List Blk} {b M N P : Nat} (W : T3 Int) (h : pre.length = b) : Froz Tryz.prog (pre ++ memS b M N P W) (.gr b P) (.sl (decide (P = 0)) ((mkT P M N W).map rsT)):=by
 unfold mkT
 rw [yF]
 refine va (memS_t h) (by kernel_rfl) (fun _ _=>rfl) (fun _ _=>rfl) fun p hp=>?_
 show Froz _ _ _ (.sl false ((vecF M fun m=>(false,vecF N fun l=>W p m l)).map rwA))
 rw [yF]
 refine va (memS_r h hp) (by kernel_rfl) (fun _ _=>rfl) (fun _ _=>rfl) fun m hm=>?_
 exact Froz.grow (memS_c h hp hm) (y7 _ _) (jP _ _)
end GA
end
section
namespace GA
open Go Go.RowKit Go.Proofs
def limF : List (List Int):=[[1,2,3,4],[-1,0,2,3],[-1,0,2,3],[0,1,11,12,60,61],[-1,0,1,2,3],[0,1,20,21],[-1,0,3,4],[-1,0,9,12,13],[-1,0,8,9,10],[-1,0,2,3],[-1,0,12,13],[0,1,3,4],[-1,0,1,2,3],[0,1,2,3],[-2,-1,0,60,61],[-1,0,2,3],[0,1,2]]
theorem limF_len : ∀ i,i < 17 -> (limF.getD i default).length <= 6:=by decide
theorem limF_b : ∀ i,i < 17 -> ∀ x ∈ limF.getD i default,-10 <= x /\ x <= 100:=by decide
def vA : AV:=.sl false (limF.map fun r=>.sl false (ints r))
def thrC : List AV:=[.int .i64 3,.int .i64 0,.int .i64 2,.int .i64 12,.gr 1 2,.gr 3 2,.gr 8 2]
theorem zb.thr {W : Blk} {k : AV -> List Blk -> Prop} (hk : k (.agg thrC) [W,.grow 40 false [.agg [.int .i64 0,.int .i64 1,.int .i64 2],.agg [.int .i64 1,.int .i64 2,.int .i64 2]],.grow 3 false [.int .i64 0,.int .i64 0,.int .i64 0],.grow 22 false [.sl false [.int .i64 0,.int .i64 0,.int .i64 0],.gr 2 3],.grow 43 false [.gr 5 1,.gr 6 1,.gr 7 1],.grow 42 false [.agg [.int .i64 0,.int .i64 12]],.grow 42 false [.agg [.int .i64 0,.int .i64 9]],.grow 42 false [.agg [.int .i64 0,.int .i64 7]],.grow 46 false [.agg [.gr 4 3],trA tr2]]) : zb Tryz.prog 7 [] [W] k:=by
 refine zb.give three_g ?_
 exact hk
theorem qC {W : Nat} {F : Nat -> AV} (h1 : ∀ i,i < W -> (F i).one = true) (h2 : ∀ i,i < W -> (F i).plainG = true) : kQ (flat (vecF W F)) = true:=by
 rw [zV fun x hx=>by obtain ⟨q,hq,rfl⟩:=yd.1 hx;exact h1 q hq,kY]
 intro y hy
 obtain ⟨q,hq,rfl⟩:=yd.1 hy
 exact h2 q hq
theorem zdd {M N P0 : Nat} {W : T3 Int} : ∀ x ∈ memW M N P0 W,x.plainG = true:=fun x hx=>by
 obtain ⟨j,hj,rfl⟩:=yd.1 hx
 unfold memB
 split
 ·exact qC (fun _ _=>rfl) fun _ _=>rfl
 ·split
  ·exact qC (fun _ _=>rfl) fun _ _=>rfl
  ·show kQ (flat (zvs _ _)) = true
   unfold zvs
   rw [yF]
   exact qC (fun _ _=>rfl) fun _ _=>rfl
def wThr : T3 Int:=fun p m l=>zi zQ ⟨p,m,l⟩
theorem made3 : kC Tryz.prog 8 [snA zQ] (.tup [.gr 0 3,.int .i64 0]) (memW 13 4 3 wThr):=ft zQ fe zbc
theorem zb.made3 {rs : List AV} {H : List Blk} {k : AV -> List Blk -> Prop} (j : Nat) (hj : H.length = j) (hf : yC Tryz.prog H rs [snA zQ]) (hk : ∀ T,T = memS j 13 4 3 wThr -> k (.tup [.gr j 3,.int .i64 0]) (H ++ T)) : zb Tryz.prog 8 rs H k:=by
 subst hj
 exact zb.giveL GA.made3 hf rfl zdd (hk _ rfl)
theorem yv {H : List Blk} {i j l : Nat} (s : Sn) {t : TypeId} (h1 : lget H i = some (.grow t s.nw (s.ways.map wyA))) (h2 : Froz Tryz.prog H (.gr j s.looks.length) (.sl s.nk (s.looks.map rwA))) (h3 : Froz Tryz.prog H (.gr l s.truths.length) (.sl s.nt (s.truths.map trA))) :
  Froz Tryz.prog H (.agg [.int .i64 s.places,.int .i64 s.home,.int .i64 s.bed,.int .i64 s.last,.gr i s.ways.length,.gr j s.looks.length,.gr l s.truths.length]) (snA s):=
 Froz.agg (gZ s) (.cons (.low rfl) (.cons (.low rfl) (.cons (.low rfl) (.cons (.low rfl) (.cons (Froz.grow h1 (List.length_map _) (yB _)) (.cons h2 (.cons h3 .nil)))))))
theorem yw {H : List Blk} {i j : Nat} {r1 r2 : List Int} (h : lget H j = some (.grow 22 false [.sl false (ints r1),.gr i r2.length])) (h2 : lget H i = some (.grow 3 false (ints r2))) : Froz Tryz.prog H (.gr j 2) (.sl false ([(false,r1),(false,r2)].map rwA)):=by
 refine Froz.gr h rfl rfl (fun e he=>?_) (fun x hx=>?_) (.cons (.low (lowI _)) (.cons (Froz.grow h2 (zK _) (lowI _)) .nil))
 ·simp only [List.map_cons,List.map_nil,List.mem_cons,List.not_mem_nil,or_false] at he
  rcases he with rfl | rfl <;> kernel_rfl
 ·simp only [flat,List.flatMap_cons,List.flatMap_nil,List.map_cons,List.map_nil,List.append_nil] at hx
  rcases List.mem_append.1 hx with hx | hx <;> (rw [show (rwA _).cells = [rwA _] from rfl,List.mem_singleton] at hx;subst hx;rfl)
theorem yx {H : List Blk} {a b c : Int × Int} (h8 : lget H 8 = some (.grow 46 false [.agg [.gr 4 3],trA tr2])) (h4 : lget H 4 = some (.grow 43 false [.gr 5 1,.gr 6 1,.gr 7 1])) (h5 : lget H 5 = some (.grow 42 false [sgA a])) (h6 : lget H 6 = some (.grow 42 false [sgA b])) (h7 : lget H 7 = some (.grow 42 false [sgA c])) :
  Froz Tryz.prog H (.gr 8 2) (.sl false ([((false,[(false,[a]),(false,[b]),(false,[c])]) : Tru),tr2].map trA)):=by
 have hs : ∀ (i : Nat) (x : Int × Int),lget H i = some (.grow 42 false [sgA x]) -> Froz Tryz.prog H (.gr i 1) (spsA (false,[x])):=fun i x h=>Froz.grow h rfl rfl
 have hd : Froz Tryz.prog H (.gr 4 3) (.sl false ([((false,[a]) : Sps),(false,[b]),(false,[c])].map spsA)):=by
  refine Froz.gr h4 rfl rfl (fun e he=>?_) (fun x hx=>?_) (.cons (hs 5 a h5) (.cons (hs 6 b h6) (.cons (hs 7 c h7) .nil)))
  ·obtain ⟨y,_,rfl⟩:=List.mem_map.1 he;kernel_rfl
  ·simp only [flat,List.map_cons,List.map_nil,List.flatMap_cons,List.flatMap_nil] at hx
   rcases List.mem_append.1 hx with hx | hx
   ·obtain rfl:=List.mem_singleton.1 hx;rfl
   rcases List.mem_append.1 hx with hx | hx
   ·obtain rfl:=List.mem_singleton.1 hx;rfl
   rcases List.mem_append.1 hx with hx | hx
   ·obtain rfl:=List.mem_singleton.1 hx;rfl
   ·cases hx
 refine Froz.gr h8 rfl rfl (fun e he=>?_) (fun x hx=>?_) (.cons hd (.cons (.low (y9 _)) .nil))
 ·obtain ⟨y,_,rfl⟩:=List.mem_map.1 he;kernel_rfl
 ·simp only [flat,List.map_cons,List.map_nil,List.flatMap_cons,List.flatMap_nil] at hx
  rcases List.mem_append.1 hx with hx | hx
  ·obtain rfl:=List.mem_singleton.1 hx;rfl
  rcases List.mem_append.1 hx with hx | hx
  ·obtain rfl:=List.mem_singleton.1 hx;rfl
  ·cases hx
theorem frozTb {pre T : List Blk} (hp : pre.length = 13) (W : T3 Int) (hT : T = memS 13 13 4 3 W) : Froz Tryz.prog (pre ++ T) (.gr 13 3) (.sl false ((mkT 3 13 4 W).map rsT)):=by
 subst hT;exact zaR W hp
section
variable {rs : List AV} {H : List Blk} {k : AV -> List Blk -> Prop} {r1 r2 r3 r4 r5 : AV}
theorem zb.sdF (F : jg) (s : Sn) (p m l : Int) (hr : rs = [r1,r2,r3,r4]) (f1 : Froz Tryz.prog H r1 (snA s)) (f2 : Froz Tryz.prog H r2 (.int .i64 p)) (f3 : Froz Tryz.prog H r3 (.int .i64 m)) (f4 : Froz Tryz.prog H r4 (.int .i64 l)) (hk : k (.bool true) H) : zb Tryz.prog 9 rs H k:=by
 subst hr;exact zb.lend (F.sands s p m l) (.cons f1 (.cons f2 (.cons f3 (.cons f4 .nil)))) rfl hk
theorem zb.spF (F : jg) (s : Sn) (p m l : Int) (t : Int × Int) (T : List (Int × Int)) (mi : Int) (hr : rs = [r1,r2,r3,r4,r5]) (f1 : Froz Tryz.prog H r1 (snA s)) (f2 : Froz Tryz.prog H r2 (xA p m l)) (f3 : Froz Tryz.prog H r3 (sgA t)) (f4 : Froz Tryz.prog H r4 (.sl false (T.map sgA))) (f5 : Froz Tryz.prog H r5 (.int .i64 mi))
  (ht : (-9223372036854775808 <= t.2 /\ t.2 <= 9223372036854775807) /\ T.length < 9223372036854775808 /\ ∀ t ∈ T,-9223372036854775808 <= t.2 /\ t.2 <= 9223372036854775807) (hk : k (.bool true) H) : zb Tryz.prog 10 rs H k:=by
 subst hr;exact zb.lend (F.steps s p m l t ht.1.1 ht.1.2 false T ht.2.1 ht.2.2 mi) (.cons f1 (.cons f2 (.cons f3 (.cons f4 (.cons f5 .nil))))) rfl hk
theorem zb.woF (F : jg) (s : Sn) (p m l : Int) (hr : rs = [r1,r2]) (f1 : Froz Tryz.prog H r1 (snA s)) (f2 : Froz Tryz.prog H r2 (xA p m l)) (hk : k (.bool true) H) : zb Tryz.prog 11 rs H k:=by
 subst hr;exact zb.lend (F.worth s p m l) (.cons f1 (.cons f2 .nil)) rfl hk
theorem zb.taF (F : jg) (s : Sn) (T : List Rs) (hr : rs = [r1,r2]) (f1 : Froz Tryz.prog H r1 (snA s)) (f2 : Froz Tryz.prog H r2 (.sl false (T.map rsT))) (hk : k (.bool true) H) : zb Tryz.prog 12 rs H k:=by
 subst hr;exact zb.lend (F.tables s false T) (.cons f1 (.cons f2 .nil)) rfl hk
theorem zb.stF (F : jg) (s : Sn) (m l : Int) (hr : rs = [r1,r2,r3]) (f1 : Froz Tryz.prog H r1 (snA s)) (f2 : Froz Tryz.prog H r2 (.int .i64 m)) (f3 : Froz Tryz.prog H r3 (.int .i64 l)) (hk : k (.bool true) H) : zb Tryz.prog 13 rs H k:=by
 subst hr;exact zb.lend (F.starts s m l) (.cons f1 (.cons f2 (.cons f3 .nil))) rfl hk
end
end GA
end
section
namespace GA
open Go Go.RowKit Go.Proofs
def fstC : Code -> Code
 | .seq a _=>a
 | c=>c
def sndC : Code -> Code
 | .seq _ b=>b
 | c=>c
def inC : Code -> Code
 | .block _ c=>c
 | .loop c=>c
 | c=>c
end GA
end
section
namespace GA
open Go Go.RowKit Go.Proofs
set_option maxHeartbeats 8000000 in
theorem fsCase1 (F : jg) (Q : Post) (i k wl : Nat) (W : List Int) (hi1 : 0 <= i) (hi2 : i < 5) (hWl : W.length = wl) (hWm : wl <= 8) (hWb : ∀ x ∈ W,-9223372036854775808 <= x /\ x <= 9223372036854775807) (hkw : k < wl) :
  Walk Tryz.prog 544 none (inC (inC (sndC (sndC (inC (fstC (sndC (sndC (inC (zbH (vD 2 (theC Tryz.f3.body))))))))))))
   (yX (zl (fun k=>k <= wl) (fun g=>[(2,natA i),(51,vA),(52,.int .i64 (17 : Nat)),(53,natA i),(60,.gr 0 wl),(61,.int .i64 (wl : Nat))] ++ [(62,natA g)]) (fun _=>[.grow 3 false (ints W)]) (fun k=>wl - k) k) Q) []
   (stX ([(2,natA i),(51,vA),(52,.int .i64 (17 : Nat)),(53,natA i),(60,.gr 0 wl),(61,.int .i64 (wl : Nat))] ++ [(62,natA k)])) [.grow 3 false (ints W)]:=by
 /-
 refine Comp.body (T:=tab) (res:=[.tmp 0]) za [58,73] Tryz.func3 rfl (by kernel_rfl) Tryz.ntmps3 rfl (by simp only [List.length_cons,List.length_nil];decide) (by rfl) ?_;conv=>whnf
 -/
 have hil : ∀ l : List Int,(ints l).length = l.length:=fun l=>List.length_map _
 refine Walk.step za [] ?_
 conv=>whnf
 obtain ⟨v,hv⟩ : ∃ v,v = W.getD (k : Int).toNat default:=⟨_,rfl⟩
 have hvb : -9223372036854775808 <= v /\ v <= 9223372036854775807:=by rw [hv];exact hWb _ (zk (by omega))
 have hve : (ints W).getD (k : Int).toNat default = .int .i64 v:=by
  rw [hv,ints,List.getD_eq_getElem?_getD,List.getElem?_map,List.getD_eq_getElem?_getD,List.getElem?_eq_getElem (by omega)];rfl
 have hzl : (ints W).length = wl:=by rw [hil];exact hWl
 clear hv hWb
 repeat' first|((first|refine zh.mk ⟨hzl,rfl,by omega,by omega⟩ ?_|refine XGet.to (.int .i64 v) hzl.symm (by omega) hve ?_|refine zb.thr ?_);conv=>whnf)|((with_reducible first|refine XBr.y fun h=>?_|refine XBr.n fun h=>?_|refine XBr.dec (fun h=>?_) fun h=>?_) <;> conv=>whnf)|((first|refine zh.a ?_|(with_reducible refine XGo.go za [58,73] ?_));conv=>whnf)|fail
 refine zb.made3 13 rfl (.cons (yv (i:=1) (j:=3) (l:=8) zQ rfl (yw (i:=2) (j:=3) rfl rfl) (yx rfl rfl rfl rfl rfl)) .nil) ?_
 intro T hT
 have hT0 : lget T 0 = some (.grow 23 false [.gr 14 13,.gr 28 13,.gr 42 13]):=by
  rw [hT,zo,yl (by decide),jU,zL];rfl
 have hT1 : lget T 29 = some (.grow 22 false ((List.range 13).map fun m=>.gr (43 + m) 4)):=by
  rw [hT,zo,yl (by decide),show 29 = rowI 13 2 from rfl,jc,zL];rfl
 have hT2 : lget T 34 = some (.grow 3 false [.int .i64 (wThr 2 4 0),.int .i64 (wThr 2 4 1),.int .i64 (wThr 2 4 2),.int .i64 (wThr 2 4 3)]):=by
  rw [hT,zo,yl (by decide),show 34 = celI 13 2 4 from rfl,wA (by decide),vf]
  unfold zvs
  rw [zL];rfl
 conv=>whnf
 repeat' ((with_reducible refine XGo.go za [58,73] ?_);conv=>whnf)
 refine Walk.norm za [] [(2,_),(5,_),(6,_),(7,_),(8,_),(9,_),(10,_),(51,_),(52,_),(53,_),(60,_),(61,_),(62,_)] ⟨rfl,rfl,rfl,rfl,rfl,rfl,rfl,rfl,rfl,rfl,rfl,rfl,rfl,trivial⟩ ?_
 conv=>whnf
 repeat' first|(erw [hT0];conv=>whnf)|(erw [hT1];conv=>whnf)|(erw [hT2];conv=>whnf)|((first|refine XGet.mk rfl (by decide) ?_|refine zh.mk ⟨rfl,rfl,by decide,by decide⟩ ?_|refine XArr.mk (by decide) (by decide) ?_);conv=>whnf)|((with_reducible first|apply XBr.ff|refine XBr.y2 fun h=>?_|refine XBr.n2 fun h=>?_|refine XBr.bne (fun h=>?_) fun h=>?_|apply Chk.go|apply ChkA.go|apply ChkF.go|apply ChkB.go|apply zq.mk) <;> conv=>whnf)|(refine zh.a ?_;conv=>whnf)|(with_reducible first|apply XAnd.mk|exact trivial)|(exact zg.mk rfl rfl)|(apply Walk.drawN (id:=12) za zd [58,73] [] (hsU _) [_,_,_,_,_,_,_,_,_,_,_,_,_,_,_,_,_,_,_,_,_,_,_,_,_,_,_,_,_,_,_,_,_,_,_,_,_,_,_,_,_,_,_,_,_,_,_,_,_,_,_,_,_,_] (by kernel_rfl) rfl)|((with_reducible refine XGo.go za [58,73] ?_);conv=>whnf)|fail
 have hTl : 34 < T.length:=by rw [hT,wO];decide
 obtain ⟨T',hT'⟩ : ∃ T',T' = memS 13 13 4 3 (upd3 wThr 2 4 3 v):=⟨_,rfl⟩
 have hTs : T.set 34 (.grow 3 false [.int .i64 (wThr 2 4 0),.int .i64 (wThr 2 4 1),.int .i64 (wThr 2 4 2),.int .i64 v]) = T':=by
  have h:=vc (pre:=List.replicate 13 Blk.dead) (b:=13) (M:=13) (N:=4) (P0:=3) (W:=wThr) (p:=2) (m:=4) (l:=3) (v:=v) rfl (by decide) (by decide)
  rw [vi (b:=13) rfl,<- hT,<- hT'] at h
  rw [<- List.append_cancel_left h]
  show T.set 34 _ = T.set 34 _
  unfold zvs
  rw [zL];rfl
 have hq : i = 0 \/ i = 1 \/ i = 2 \/ i = 3 \/ i = 4:=by omega
 rcases hq with rfl | rfl | rfl | rfl | rfl
 all_goals refine XIx.mk (by decide) (by decide) rfl ?_
 all_goals conv=>whnf
 all_goals skip
 repeat' first|((first|(refine qu.mk rfl (by decide) (Nat.le_of_ble_eq_true rfl) rfl ?_)|(with_reducible refine XGo.go za [58,73] ?_));conv=>whnf)|fail
 all_goals refine Walk.norm za [] [(2,_),(6,_),(7,_),(8,_),(9,_),(10,_),(51,_),(52,_),(53,_),(60,_),(61,_),(62,_)] ⟨rfl,rfl,rfl,rfl,rfl,rfl,rfl,rfl,rfl,rfl,rfl,rfl,trivial⟩ ?_
 all_goals conv=>whnf
 all_goals skip
 repeat' first|((first|refine zb.sdF F ⟨_,_,_,_,false,[(_,_,_),(_,_,_)],false,[(false,[0,0,0]),(false,[_,_,_])],false,[(false,[(false,[(_,_)]),(false,[(_,_)]),(false,[(_,_)])]),tr2]⟩ _ _ _ rfl (yv (i:=1) (j:=3) (l:=8) ⟨_,_,_,_,false,[(_,_,_),(_,_,_)],false,[(false,[0,0,0]),(false,[_,_,_])],false,[(false,[(false,[(_,_)]),(false,[(_,_)]),(false,[(_,_)])]),tr2]⟩ rfl (yw (i:=2) (j:=3) rfl rfl) (yx rfl rfl rfl rfl rfl)) (.low rfl) (.low rfl) (.low rfl) ?_|(refine zb.spF F ⟨_,_,_,_,false,[(_,_,_),(_,_,_)],false,[(false,[0,0,0]),(false,[_,_,_])],false,[(false,[(false,[(_,_)]),(false,[(_,_)]),(false,[(_,_)])]),tr2]⟩ _ _ _ (_,_) [(_,_),(_,_),(_,_),(_,_)] _ rfl (yv (i:=1) (j:=3) (l:=8) ⟨_,_,_,_,false,[(_,_,_),(_,_,_)],false,[(false,[0,0,0]),(false,[_,_,_])],false,[(false,[(false,[(_,_)]),(false,[(_,_)]),(false,[(_,_)])]),tr2]⟩ rfl (yw (i:=2) (j:=3) rfl rfl) (yx rfl rfl rfl rfl rfl)) (.low rfl) (.low rfl) (Froz.grow (i:=9) rfl rfl rfl) (.low rfl) ⟨by dsimp only;omega,(show (4 : Nat) < 9223372036854775808 by decide),by intro t ht;simp only [List.mem_cons,List.not_mem_nil,or_false] at ht;rcases ht with rfl | rfl | rfl | rfl <;> (dsimp only;omega)⟩ ?_)|refine zb.woF F ⟨_,_,_,_,false,[(_,_,_),(_,_,_)],false,[(false,[0,0,0]),(false,[_,_,_])],false,[(false,[(false,[(_,_)]),(false,[(_,_)]),(false,[(_,_)])]),tr2]⟩ _ _ _ rfl (yv (i:=1) (j:=3) (l:=8) ⟨_,_,_,_,false,[(_,_,_),(_,_,_)],false,[(false,[0,0,0]),(false,[_,_,_])],false,[(false,[(false,[(_,_)]),(false,[(_,_)]),(false,[(_,_)])]),tr2]⟩ rfl (yw (i:=2) (j:=3) rfl rfl) (yx rfl rfl rfl rfl rfl)) (.low rfl) ?_|refine zb.taF F ⟨_,_,_,_,false,[(_,_,_),(_,_,_)],false,[(false,[0,0,0]),(false,[_,_,_])],false,[(false,[(false,[(_,_)]),(false,[(_,_)]),(false,[(_,_)])]),tr2]⟩ _ rfl (yv (i:=1) (j:=3) (l:=8) ⟨_,_,_,_,false,[(_,_,_),(_,_,_)],false,[(false,[0,0,0]),(false,[_,_,_])],false,[(false,[(false,[(_,_)]),(false,[(_,_)]),(false,[(_,_)])]),tr2]⟩ rfl (yw (i:=2) (j:=3) rfl rfl) (yx rfl rfl rfl rfl rfl)) (frozTb (pre:=[_,_,_,_,_,_,_,_,_,_,_,_,_]) rfl _ hT) ?_|refine zb.stF F ⟨_,_,_,_,false,[(_,_,_),(_,_,_)],false,[(false,[0,0,0]),(false,[_,_,_])],false,[(false,[(false,[(_,_)]),(false,[(_,_)]),(false,[(_,_)])]),tr2]⟩ _ _ rfl (yv (i:=1) (j:=3) (l:=8) ⟨_,_,_,_,false,[(_,_,_),(_,_,_)],false,[(false,[0,0,0]),(false,[_,_,_])],false,[(false,[(false,[(_,_)]),(false,[(_,_)]),(false,[(_,_)])]),tr2]⟩ rfl (yw (i:=2) (j:=3) rfl rfl) (yx rfl rfl rfl rfl rfl)) (.low rfl) (.low rfl) ?_);conv=>whnf)|((with_reducible first|apply XBr.tt|apply XBr.ff|refine XBr.y fun h=>?_|refine XBr.n fun h=>?_|refine XBr.dec (fun h=>?_) fun h=>?_|refine XInt.a ?_) <;> conv=>whnf) | with_reducible apply XBr.not|((with_reducible refine XGo.go za [58,73] ?_);conv=>whnf)|fail
 all_goals exact zl.go (k + 1) _ (by omega) (by omega) rfl ⟨rfl,rfl,rfl,rfl,rfl,rfl,rfl,trivial⟩
end GA
end
section
namespace GA
open Go Go.RowKit Go.Proofs
set_option maxHeartbeats 8000000 in
theorem fsCase2 (F : jg) (Q : Post) (i k wl : Nat) (W : List Int) (hi1 : 5 <= i) (hi2 : i < 9) (hWl : W.length = wl) (hWm : wl <= 8) (hWb : ∀ x ∈ W,-9223372036854775808 <= x /\ x <= 9223372036854775807) (hkw : k < wl) :
  Walk Tryz.prog 544 none (inC (inC (sndC (sndC (inC (fstC (sndC (sndC (inC (zbH (vD 2 (theC Tryz.f3.body))))))))))))
   (yX (zl (fun k=>k <= wl) (fun g=>[(2,natA i),(51,vA),(52,.int .i64 (17 : Nat)),(53,natA i),(60,.gr 0 wl),(61,.int .i64 (wl : Nat))] ++ [(62,natA g)]) (fun _=>[.grow 3 false (ints W)]) (fun k=>wl - k) k) Q) []
   (stX ([(2,natA i),(51,vA),(52,.int .i64 (17 : Nat)),(53,natA i),(60,.gr 0 wl),(61,.int .i64 (wl : Nat))] ++ [(62,natA k)])) [.grow 3 false (ints W)]:=by
 /-
 refine Comp.body (T:=tab) (res:=[.tmp 0]) za [58,73] Tryz.func3 rfl (by kernel_rfl) Tryz.ntmps3 rfl (by simp only [List.length_cons,List.length_nil];decide) (by rfl) ?_;conv=>whnf
 -/
 have hil : ∀ l : List Int,(ints l).length = l.length:=fun l=>List.length_map _
 refine Walk.step za [] ?_
 conv=>whnf
 obtain ⟨v,hv⟩ : ∃ v,v = W.getD (k : Int).toNat default:=⟨_,rfl⟩
 have hvb : -9223372036854775808 <= v /\ v <= 9223372036854775807:=by rw [hv];exact hWb _ (zk (by omega))
 have hve : (ints W).getD (k : Int).toNat default = .int .i64 v:=by
  rw [hv,ints,List.getD_eq_getElem?_getD,List.getElem?_map,List.getD_eq_getElem?_getD,List.getElem?_eq_getElem (by omega)];rfl
 have hzl : (ints W).length = wl:=by rw [hil];exact hWl
 clear hv hWb
 repeat' first|((first|refine zh.mk ⟨hzl,rfl,by omega,by omega⟩ ?_|refine XGet.to (.int .i64 v) hzl.symm (by omega) hve ?_|refine zb.thr ?_);conv=>whnf)|((with_reducible first|refine XBr.y fun h=>?_|refine XBr.n fun h=>?_|refine XBr.dec (fun h=>?_) fun h=>?_) <;> conv=>whnf)|((first|refine zh.a ?_|(with_reducible refine XGo.go za [58,73] ?_));conv=>whnf)|fail
 refine zb.made3 13 rfl (.cons (yv (i:=1) (j:=3) (l:=8) zQ rfl (yw (i:=2) (j:=3) rfl rfl) (yx rfl rfl rfl rfl rfl)) .nil) ?_
 intro T hT
 have hT0 : lget T 0 = some (.grow 23 false [.gr 14 13,.gr 28 13,.gr 42 13]):=by
  rw [hT,zo,yl (by decide),jU,zL];rfl
 have hT1 : lget T 29 = some (.grow 22 false ((List.range 13).map fun m=>.gr (43 + m) 4)):=by
  rw [hT,zo,yl (by decide),show 29 = rowI 13 2 from rfl,jc,zL];rfl
 have hT2 : lget T 34 = some (.grow 3 false [.int .i64 (wThr 2 4 0),.int .i64 (wThr 2 4 1),.int .i64 (wThr 2 4 2),.int .i64 (wThr 2 4 3)]):=by
  rw [hT,zo,yl (by decide),show 34 = celI 13 2 4 from rfl,wA (by decide),vf]
  unfold zvs
  rw [zL];rfl
 conv=>whnf
 repeat' ((with_reducible refine XGo.go za [58,73] ?_);conv=>whnf)
 refine Walk.norm za [] [(2,_),(5,_),(6,_),(7,_),(8,_),(9,_),(10,_),(51,_),(52,_),(53,_),(60,_),(61,_),(62,_)] ⟨rfl,rfl,rfl,rfl,rfl,rfl,rfl,rfl,rfl,rfl,rfl,rfl,rfl,trivial⟩ ?_
 conv=>whnf
 repeat' first|(erw [hT0];conv=>whnf)|(erw [hT1];conv=>whnf)|(erw [hT2];conv=>whnf)|((first|refine XGet.mk rfl (by decide) ?_|refine zh.mk ⟨rfl,rfl,by decide,by decide⟩ ?_|refine XArr.mk (by decide) (by decide) ?_);conv=>whnf)|((with_reducible first|apply XBr.ff|refine XBr.y2 fun h=>?_|refine XBr.n2 fun h=>?_|refine XBr.bne (fun h=>?_) fun h=>?_|apply Chk.go|apply ChkA.go|apply ChkF.go|apply ChkB.go|apply zq.mk) <;> conv=>whnf)|(refine zh.a ?_;conv=>whnf)|(with_reducible first|apply XAnd.mk|exact trivial)|(exact zg.mk rfl rfl)|(apply Walk.drawN (id:=12) za zd [58,73] [] (hsU _) [_,_,_,_,_,_,_,_,_,_,_,_,_,_,_,_,_,_,_,_,_,_,_,_,_,_,_,_,_,_,_,_,_,_,_,_,_,_,_,_,_,_,_,_,_,_,_,_,_,_,_,_,_,_] (by kernel_rfl) rfl)|((with_reducible refine XGo.go za [58,73] ?_);conv=>whnf)|fail
 have hTl : 34 < T.length:=by rw [hT,wO];decide
 obtain ⟨T',hT'⟩ : ∃ T',T' = memS 13 13 4 3 (upd3 wThr 2 4 3 v):=⟨_,rfl⟩
 have hTs : T.set 34 (.grow 3 false [.int .i64 (wThr 2 4 0),.int .i64 (wThr 2 4 1),.int .i64 (wThr 2 4 2),.int .i64 v]) = T':=by
  have h:=vc (pre:=List.replicate 13 Blk.dead) (b:=13) (M:=13) (N:=4) (P0:=3) (W:=wThr) (p:=2) (m:=4) (l:=3) (v:=v) rfl (by decide) (by decide)
  rw [vi (b:=13) rfl,<- hT,<- hT'] at h
  rw [<- List.append_cancel_left h]
  show T.set 34 _ = T.set 34 _
  unfold zvs
  rw [zL];rfl
 have hq : i = 5 \/ i = 6 \/ i = 7 \/ i = 8:=by omega
 rcases hq with rfl | rfl | rfl | rfl
 all_goals refine XIx.mk (by decide) (by decide) rfl ?_
 all_goals conv=>whnf
 all_goals skip
 repeat' first|((first|(first|refine qu.mk rfl (by decide) (Nat.le_of_ble_eq_true rfl) rfl ?_|refine XPut.mk rfl (by decide) ?_)|(with_reducible refine XGo.go za [58,73] ?_));conv=>whnf)|fail
 all_goals refine Walk.norm za [] [(2,_),(6,_),(7,_),(8,_),(9,_),(10,_),(51,_),(52,_),(53,_),(60,_),(61,_),(62,_)] ⟨rfl,rfl,rfl,rfl,rfl,rfl,rfl,rfl,rfl,rfl,rfl,rfl,trivial⟩ ?_
 all_goals conv=>whnf
 all_goals skip
 repeat' first|((first|refine zb.sdF F ⟨_,_,_,_,false,[(_,_,_),(_,_,_)],false,[(false,[0,0,0]),(false,[_,_,_])],false,[(false,[(false,[(_,_)]),(false,[(_,_)]),(false,[(_,_)])]),tr2]⟩ _ _ _ rfl (yv (i:=1) (j:=3) (l:=8) ⟨_,_,_,_,false,[(_,_,_),(_,_,_)],false,[(false,[0,0,0]),(false,[_,_,_])],false,[(false,[(false,[(_,_)]),(false,[(_,_)]),(false,[(_,_)])]),tr2]⟩ rfl (yw (i:=2) (j:=3) rfl rfl) (yx rfl rfl rfl rfl rfl)) (.low rfl) (.low rfl) (.low rfl) ?_|(refine zb.spF F ⟨_,_,_,_,false,[(_,_,_),(_,_,_)],false,[(false,[0,0,0]),(false,[_,_,_])],false,[(false,[(false,[(_,_)]),(false,[(_,_)]),(false,[(_,_)])]),tr2]⟩ _ _ _ (_,_) [(_,_),(_,_),(_,_),(_,_)] _ rfl (yv (i:=1) (j:=3) (l:=8) ⟨_,_,_,_,false,[(_,_,_),(_,_,_)],false,[(false,[0,0,0]),(false,[_,_,_])],false,[(false,[(false,[(_,_)]),(false,[(_,_)]),(false,[(_,_)])]),tr2]⟩ rfl (yw (i:=2) (j:=3) rfl rfl) (yx rfl rfl rfl rfl rfl)) (.low rfl) (.low rfl) (Froz.grow (i:=9) rfl rfl rfl) (.low rfl) ⟨by dsimp only;omega,(show (4 : Nat) < 9223372036854775808 by decide),by intro t ht;simp only [List.mem_cons,List.not_mem_nil,or_false] at ht;rcases ht with rfl | rfl | rfl | rfl <;> (dsimp only;omega)⟩ ?_)|refine zb.woF F ⟨_,_,_,_,false,[(_,_,_),(_,_,_)],false,[(false,[0,0,0]),(false,[_,_,_])],false,[(false,[(false,[(_,_)]),(false,[(_,_)]),(false,[(_,_)])]),tr2]⟩ _ _ _ rfl (yv (i:=1) (j:=3) (l:=8) ⟨_,_,_,_,false,[(_,_,_),(_,_,_)],false,[(false,[0,0,0]),(false,[_,_,_])],false,[(false,[(false,[(_,_)]),(false,[(_,_)]),(false,[(_,_)])]),tr2]⟩ rfl (yw (i:=2) (j:=3) rfl rfl) (yx rfl rfl rfl rfl rfl)) (.low rfl) ?_|refine zb.taF F ⟨_,_,_,_,false,[(_,_,_),(_,_,_)],false,[(false,[0,0,0]),(false,[_,_,_])],false,[(false,[(false,[(_,_)]),(false,[(_,_)]),(false,[(_,_)])]),tr2]⟩ _ rfl (yv (i:=1) (j:=3) (l:=8) ⟨_,_,_,_,false,[(_,_,_),(_,_,_)],false,[(false,[0,0,0]),(false,[_,_,_])],false,[(false,[(false,[(_,_)]),(false,[(_,_)]),(false,[(_,_)])]),tr2]⟩ rfl (yw (i:=2) (j:=3) rfl rfl) (yx rfl rfl rfl rfl rfl)) (frozTb (pre:=[_,_,_,_,_,_,_,_,_,_,_,_,_]) rfl _ hT) ?_|refine zb.stF F ⟨_,_,_,_,false,[(_,_,_),(_,_,_)],false,[(false,[0,0,0]),(false,[_,_,_])],false,[(false,[(false,[(_,_)]),(false,[(_,_)]),(false,[(_,_)])]),tr2]⟩ _ _ rfl (yv (i:=1) (j:=3) (l:=8) ⟨_,_,_,_,false,[(_,_,_),(_,_,_)],false,[(false,[0,0,0]),(false,[_,_,_])],false,[(false,[(false,[(_,_)]),(false,[(_,_)]),(false,[(_,_)])]),tr2]⟩ rfl (yw (i:=2) (j:=3) rfl rfl) (yx rfl rfl rfl rfl rfl)) (.low rfl) (.low rfl) ?_);conv=>whnf)|((with_reducible first|apply XBr.tt|apply XBr.ff|refine XBr.y fun h=>?_|refine XBr.n fun h=>?_|refine XBr.dec (fun h=>?_) fun h=>?_|refine XInt.a ?_) <;> conv=>whnf) | with_reducible apply XBr.not|((with_reducible refine XGo.go za [58,73] ?_);conv=>whnf)|fail
 all_goals exact zl.go (k + 1) _ (by omega) (by omega) rfl ⟨rfl,rfl,rfl,rfl,rfl,rfl,rfl,trivial⟩
end GA
end
section
namespace GA
open Go Go.RowKit Go.Proofs
set_option maxHeartbeats 8000000 in
theorem fsCase3 (F : jg) (Q : Post) (i k wl : Nat) (W : List Int) (hi1 : 9 <= i) (hi2 : i < 13) (hWl : W.length = wl) (hWm : wl <= 8) (hWb : ∀ x ∈ W,-9223372036854775808 <= x /\ x <= 9223372036854775807) (hkw : k < wl) :
  Walk Tryz.prog 544 none (inC (inC (sndC (sndC (inC (fstC (sndC (sndC (inC (zbH (vD 2 (theC Tryz.f3.body))))))))))))
   (yX (zl (fun k=>k <= wl) (fun g=>[(2,natA i),(51,vA),(52,.int .i64 (17 : Nat)),(53,natA i),(60,.gr 0 wl),(61,.int .i64 (wl : Nat))] ++ [(62,natA g)]) (fun _=>[.grow 3 false (ints W)]) (fun k=>wl - k) k) Q) []
   (stX ([(2,natA i),(51,vA),(52,.int .i64 (17 : Nat)),(53,natA i),(60,.gr 0 wl),(61,.int .i64 (wl : Nat))] ++ [(62,natA k)])) [.grow 3 false (ints W)]:=by
 /-
 refine Comp.body (T:=tab) (res:=[.tmp 0]) za [58,73] Tryz.func3 rfl (by kernel_rfl) Tryz.ntmps3 rfl (by simp only [List.length_cons,List.length_nil];decide) (by rfl) ?_;conv=>whnf
 -/
 have hil : ∀ l : List Int,(ints l).length = l.length:=fun l=>List.length_map _
 refine Walk.step za [] ?_
 conv=>whnf
 obtain ⟨v,hv⟩ : ∃ v,v = W.getD (k : Int).toNat default:=⟨_,rfl⟩
 have hvb : -9223372036854775808 <= v /\ v <= 9223372036854775807:=by rw [hv];exact hWb _ (zk (by omega))
 have hve : (ints W).getD (k : Int).toNat default = .int .i64 v:=by
  rw [hv,ints,List.getD_eq_getElem?_getD,List.getElem?_map,List.getD_eq_getElem?_getD,List.getElem?_eq_getElem (by omega)];rfl
 have hzl : (ints W).length = wl:=by rw [hil];exact hWl
 clear hv hWb
 repeat' first|((first|refine zh.mk ⟨hzl,rfl,by omega,by omega⟩ ?_|refine XGet.to (.int .i64 v) hzl.symm (by omega) hve ?_|refine zb.thr ?_);conv=>whnf)|((with_reducible first|refine XBr.y fun h=>?_|refine XBr.n fun h=>?_|refine XBr.dec (fun h=>?_) fun h=>?_) <;> conv=>whnf)|((first|refine zh.a ?_|(with_reducible refine XGo.go za [58,73] ?_));conv=>whnf)|fail
 refine zb.made3 13 rfl (.cons (yv (i:=1) (j:=3) (l:=8) zQ rfl (yw (i:=2) (j:=3) rfl rfl) (yx rfl rfl rfl rfl rfl)) .nil) ?_
 intro T hT
 have hT0 : lget T 0 = some (.grow 23 false [.gr 14 13,.gr 28 13,.gr 42 13]):=by
  rw [hT,zo,yl (by decide),jU,zL];rfl
 have hT1 : lget T 29 = some (.grow 22 false ((List.range 13).map fun m=>.gr (43 + m) 4)):=by
  rw [hT,zo,yl (by decide),show 29 = rowI 13 2 from rfl,jc,zL];rfl
 have hT2 : lget T 34 = some (.grow 3 false [.int .i64 (wThr 2 4 0),.int .i64 (wThr 2 4 1),.int .i64 (wThr 2 4 2),.int .i64 (wThr 2 4 3)]):=by
  rw [hT,zo,yl (by decide),show 34 = celI 13 2 4 from rfl,wA (by decide),vf]
  unfold zvs
  rw [zL];rfl
 conv=>whnf
 repeat' ((with_reducible refine XGo.go za [58,73] ?_);conv=>whnf)
 refine Walk.norm za [] [(2,_),(5,_),(6,_),(7,_),(8,_),(9,_),(10,_),(51,_),(52,_),(53,_),(60,_),(61,_),(62,_)] ⟨rfl,rfl,rfl,rfl,rfl,rfl,rfl,rfl,rfl,rfl,rfl,rfl,rfl,trivial⟩ ?_
 conv=>whnf
 repeat' first|(erw [hT0];conv=>whnf)|(erw [hT1];conv=>whnf)|(erw [hT2];conv=>whnf)|((first|refine XGet.mk rfl (by decide) ?_|refine zh.mk ⟨rfl,rfl,by decide,by decide⟩ ?_|refine XArr.mk (by decide) (by decide) ?_);conv=>whnf)|((with_reducible first|apply XBr.ff|refine XBr.y2 fun h=>?_|refine XBr.n2 fun h=>?_|refine XBr.bne (fun h=>?_) fun h=>?_|apply Chk.go|apply ChkA.go|apply ChkF.go|apply ChkB.go|apply zq.mk) <;> conv=>whnf)|(refine zh.a ?_;conv=>whnf)|(with_reducible first|apply XAnd.mk|exact trivial)|(exact zg.mk rfl rfl)|(apply Walk.drawN (id:=12) za zd [58,73] [] (hsU _) [_,_,_,_,_,_,_,_,_,_,_,_,_,_,_,_,_,_,_,_,_,_,_,_,_,_,_,_,_,_,_,_,_,_,_,_,_,_,_,_,_,_,_,_,_,_,_,_,_,_,_,_,_,_] (by kernel_rfl) rfl)|((with_reducible refine XGo.go za [58,73] ?_);conv=>whnf)|fail
 have hTl : 34 < T.length:=by rw [hT,wO];decide
 obtain ⟨T',hT'⟩ : ∃ T',T' = memS 13 13 4 3 (upd3 wThr 2 4 3 v):=⟨_,rfl⟩
 have hTs : T.set 34 (.grow 3 false [.int .i64 (wThr 2 4 0),.int .i64 (wThr 2 4 1),.int .i64 (wThr 2 4 2),.int .i64 v]) = T':=by
  have h:=vc (pre:=List.replicate 13 Blk.dead) (b:=13) (M:=13) (N:=4) (P0:=3) (W:=wThr) (p:=2) (m:=4) (l:=3) (v:=v) rfl (by decide) (by decide)
  rw [vi (b:=13) rfl,<- hT,<- hT'] at h
  rw [<- List.append_cancel_left h]
  show T.set 34 _ = T.set 34 _
  unfold zvs
  rw [zL];rfl
 have hq : i = 9 \/ i = 10 \/ i = 11 \/ i = 12:=by omega
 rcases hq with rfl | rfl | rfl | rfl
 all_goals refine XIx.mk (by decide) (by decide) rfl ?_
 all_goals conv=>whnf
 all_goals skip
 repeat' ((with_reducible refine XGo.go za [58,73] ?_);conv=>whnf)
 all_goals refine Walk.norm za [] [(2,_),(6,_),(7,_),(8,_),(9,_),(10,_),(51,_),(52,_),(53,_),(60,_),(61,_),(62,_)] ⟨rfl,rfl,rfl,rfl,rfl,rfl,rfl,rfl,rfl,rfl,rfl,rfl,trivial⟩ ?_
 all_goals conv=>whnf
 all_goals skip
 repeat' first|((first|refine zb.sdF F ⟨_,_,_,_,false,[(_,_,_),(_,_,_)],false,[(false,[0,0,0]),(false,[_,_,_])],false,[(false,[(false,[(_,_)]),(false,[(_,_)]),(false,[(_,_)])]),tr2]⟩ _ _ _ rfl (yv (i:=1) (j:=3) (l:=8) ⟨_,_,_,_,false,[(_,_,_),(_,_,_)],false,[(false,[0,0,0]),(false,[_,_,_])],false,[(false,[(false,[(_,_)]),(false,[(_,_)]),(false,[(_,_)])]),tr2]⟩ rfl (yw (i:=2) (j:=3) rfl rfl) (yx rfl rfl rfl rfl rfl)) (.low rfl) (.low rfl) (.low rfl) ?_|(refine zb.spF F ⟨_,_,_,_,false,[(_,_,_),(_,_,_)],false,[(false,[0,0,0]),(false,[_,_,_])],false,[(false,[(false,[(_,_)]),(false,[(_,_)]),(false,[(_,_)])]),tr2]⟩ _ _ _ (_,_) [(_,_),(_,_),(_,_),(_,_)] _ rfl (yv (i:=1) (j:=3) (l:=8) ⟨_,_,_,_,false,[(_,_,_),(_,_,_)],false,[(false,[0,0,0]),(false,[_,_,_])],false,[(false,[(false,[(_,_)]),(false,[(_,_)]),(false,[(_,_)])]),tr2]⟩ rfl (yw (i:=2) (j:=3) rfl rfl) (yx rfl rfl rfl rfl rfl)) (.low rfl) (.low rfl) (Froz.grow (i:=9) rfl rfl rfl) (.low rfl) ⟨by dsimp only;omega,(show (4 : Nat) < 9223372036854775808 by decide),by intro t ht;simp only [List.mem_cons,List.not_mem_nil,or_false] at ht;rcases ht with rfl | rfl | rfl | rfl <;> (dsimp only;omega)⟩ ?_)|refine zb.woF F ⟨_,_,_,_,false,[(_,_,_),(_,_,_)],false,[(false,[0,0,0]),(false,[_,_,_])],false,[(false,[(false,[(_,_)]),(false,[(_,_)]),(false,[(_,_)])]),tr2]⟩ _ _ _ rfl (yv (i:=1) (j:=3) (l:=8) ⟨_,_,_,_,false,[(_,_,_),(_,_,_)],false,[(false,[0,0,0]),(false,[_,_,_])],false,[(false,[(false,[(_,_)]),(false,[(_,_)]),(false,[(_,_)])]),tr2]⟩ rfl (yw (i:=2) (j:=3) rfl rfl) (yx rfl rfl rfl rfl rfl)) (.low rfl) ?_|refine zb.stF F ⟨_,_,_,_,false,[(_,_,_),(_,_,_)],false,[(false,[0,0,0]),(false,[_,_,_])],false,[(false,[(false,[(_,_)]),(false,[(_,_)]),(false,[(_,_)])]),tr2]⟩ _ _ rfl (yv (i:=1) (j:=3) (l:=8) ⟨_,_,_,_,false,[(_,_,_),(_,_,_)],false,[(false,[0,0,0]),(false,[_,_,_])],false,[(false,[(false,[(_,_)]),(false,[(_,_)]),(false,[(_,_)])]),tr2]⟩ rfl (yw (i:=2) (j:=3) rfl rfl) (yx rfl rfl rfl rfl rfl)) (.low rfl) (.low rfl) ?_);conv=>whnf)|((with_reducible first|apply XBr.tt|apply XBr.ff|refine XBr.y fun h=>?_|refine XBr.n fun h=>?_|refine XBr.dec (fun h=>?_) fun h=>?_|refine XBr.y1 fun h=>?_|refine XBr.n1 fun h=>?_|refine XBr.beq (fun h=>?_) fun h=>?_|refine XInt.a ?_) <;> conv=>whnf) | with_reducible apply XBr.not|((with_reducible refine XGo.go za [58,73] ?_);conv=>whnf)|fail
 all_goals exact zl.go (k + 1) _ (by omega) (by omega) rfl ⟨rfl,rfl,rfl,rfl,rfl,rfl,rfl,trivial⟩
end GA
end
section
namespace GA
open Go Go.RowKit Go.Proofs
set_option maxHeartbeats 8000000 in
theorem fsCase4 (F : jg) (Q : Post) (i k wl : Nat) (W : List Int) (hi1 : 13 <= i) (hi2 : i < 17) (hWl : W.length = wl) (hWm : wl <= 8) (hWb : ∀ x ∈ W,-9223372036854775808 <= x /\ x <= 9223372036854775807) (hkw : k < wl) :
  Walk Tryz.prog 544 none (inC (inC (sndC (sndC (inC (fstC (sndC (sndC (inC (zbH (vD 2 (theC Tryz.f3.body))))))))))))
   (yX (zl (fun k=>k <= wl) (fun g=>[(2,natA i),(51,vA),(52,.int .i64 (17 : Nat)),(53,natA i),(60,.gr 0 wl),(61,.int .i64 (wl : Nat))] ++ [(62,natA g)]) (fun _=>[.grow 3 false (ints W)]) (fun k=>wl - k) k) Q) []
   (stX ([(2,natA i),(51,vA),(52,.int .i64 (17 : Nat)),(53,natA i),(60,.gr 0 wl),(61,.int .i64 (wl : Nat))] ++ [(62,natA k)])) [.grow 3 false (ints W)]:=by
 /-
 refine Comp.body (T:=tab) (res:=[.tmp 0]) za [58,73] Tryz.func3 rfl (by kernel_rfl) Tryz.ntmps3 rfl (by simp only [List.length_cons,List.length_nil];decide) (by rfl) ?_;conv=>whnf
 -/
 have hil : ∀ l : List Int,(ints l).length = l.length:=fun l=>List.length_map _
 refine Walk.step za [] ?_
 conv=>whnf
 obtain ⟨v,hv⟩ : ∃ v,v = W.getD (k : Int).toNat default:=⟨_,rfl⟩
 have hvb : -9223372036854775808 <= v /\ v <= 9223372036854775807:=by rw [hv];exact hWb _ (zk (by omega))
 have hve : (ints W).getD (k : Int).toNat default = .int .i64 v:=by
  rw [hv,ints,List.getD_eq_getElem?_getD,List.getElem?_map,List.getD_eq_getElem?_getD,List.getElem?_eq_getElem (by omega)];rfl
 have hzl : (ints W).length = wl:=by rw [hil];exact hWl
 clear hv hWb
 repeat' first|((first|refine zh.mk ⟨hzl,rfl,by omega,by omega⟩ ?_|refine XGet.to (.int .i64 v) hzl.symm (by omega) hve ?_|refine zb.thr ?_);conv=>whnf)|((with_reducible first|refine XBr.y fun h=>?_|refine XBr.n fun h=>?_|refine XBr.dec (fun h=>?_) fun h=>?_) <;> conv=>whnf)|((first|refine zh.a ?_|(with_reducible refine XGo.go za [58,73] ?_));conv=>whnf)|fail
 refine zb.made3 13 rfl (.cons (yv (i:=1) (j:=3) (l:=8) zQ rfl (yw (i:=2) (j:=3) rfl rfl) (yx rfl rfl rfl rfl rfl)) .nil) ?_
 intro T hT
 have hT0 : lget T 0 = some (.grow 23 false [.gr 14 13,.gr 28 13,.gr 42 13]):=by
  rw [hT,zo,yl (by decide),jU,zL];rfl
 have hT1 : lget T 29 = some (.grow 22 false ((List.range 13).map fun m=>.gr (43 + m) 4)):=by
  rw [hT,zo,yl (by decide),show 29 = rowI 13 2 from rfl,jc,zL];rfl
 have hT2 : lget T 34 = some (.grow 3 false [.int .i64 (wThr 2 4 0),.int .i64 (wThr 2 4 1),.int .i64 (wThr 2 4 2),.int .i64 (wThr 2 4 3)]):=by
  rw [hT,zo,yl (by decide),show 34 = celI 13 2 4 from rfl,wA (by decide),vf]
  unfold zvs
  rw [zL];rfl
 conv=>whnf
 repeat' ((with_reducible refine XGo.go za [58,73] ?_);conv=>whnf)
 refine Walk.norm za [] [(2,_),(5,_),(6,_),(7,_),(8,_),(9,_),(10,_),(51,_),(52,_),(53,_),(60,_),(61,_),(62,_)] ⟨rfl,rfl,rfl,rfl,rfl,rfl,rfl,rfl,rfl,rfl,rfl,rfl,rfl,trivial⟩ ?_
 conv=>whnf
 repeat' first|(erw [hT0];conv=>whnf)|(erw [hT1];conv=>whnf)|(erw [hT2];conv=>whnf)|((first|refine XGet.mk rfl (by decide) ?_|refine zh.mk ⟨rfl,rfl,by decide,by decide⟩ ?_|refine XArr.mk (by decide) (by decide) ?_);conv=>whnf)|((with_reducible first|apply XBr.ff|refine XBr.y2 fun h=>?_|refine XBr.n2 fun h=>?_|refine XBr.bne (fun h=>?_) fun h=>?_|apply Chk.go|apply ChkA.go|apply ChkF.go|apply ChkB.go|apply zq.mk) <;> conv=>whnf)|(refine zh.a ?_;conv=>whnf)|(with_reducible first|apply XAnd.mk|exact trivial)|(exact zg.mk rfl rfl)|(apply Walk.drawN (id:=12) za zd [58,73] [] (hsU _) [_,_,_,_,_,_,_,_,_,_,_,_,_,_,_,_,_,_,_,_,_,_,_,_,_,_,_,_,_,_,_,_,_,_,_,_,_,_,_,_,_,_,_,_,_,_,_,_,_,_,_,_,_,_] (by kernel_rfl) rfl)|((with_reducible refine XGo.go za [58,73] ?_);conv=>whnf)|fail
 have hTl : 34 < T.length:=by rw [hT,wO];decide
 obtain ⟨T',hT'⟩ : ∃ T',T' = memS 13 13 4 3 (upd3 wThr 2 4 3 v):=⟨_,rfl⟩
 have hTs : T.set 34 (.grow 3 false [.int .i64 (wThr 2 4 0),.int .i64 (wThr 2 4 1),.int .i64 (wThr 2 4 2),.int .i64 v]) = T':=by
  have h:=vc (pre:=List.replicate 13 Blk.dead) (b:=13) (M:=13) (N:=4) (P0:=3) (W:=wThr) (p:=2) (m:=4) (l:=3) (v:=v) rfl (by decide) (by decide)
  rw [vi (b:=13) rfl,<- hT,<- hT'] at h
  rw [<- List.append_cancel_left h]
  show T.set 34 _ = T.set 34 _
  unfold zvs
  rw [zL];rfl
 have hq : i = 13 \/ i = 14 \/ i = 15 \/ i = 16:=by omega
 rcases hq with rfl | rfl | rfl | rfl
 all_goals refine XIx.mk (by decide) (by decide) rfl ?_
 all_goals conv=>whnf
 all_goals skip
 repeat' first|((first|refine qu.mk rfl (by decide) (Nat.le_of_ble_eq_true rfl) rfl ?_|refine XPut.mk rfl (by decide) ?_);conv=>whnf)|(erw [hT2];conv=>whnf)|((first|(refine yu (H:=T) T' hTl hTs ?_)|(with_reducible refine XGo.go za [58,73] ?_));conv=>whnf)|fail
 all_goals refine Walk.norm za [] [(2,_),(6,_),(7,_),(8,_),(9,_),(10,_),(51,_),(52,_),(53,_),(60,_),(61,_),(62,_)] ⟨rfl,rfl,rfl,rfl,rfl,rfl,rfl,rfl,rfl,rfl,rfl,rfl,trivial⟩ ?_
 all_goals conv=>whnf
 all_goals skip
 repeat' first|((first|refine zb.sdF F ⟨_,_,_,_,false,[(_,_,_),(_,_,_)],false,[(false,[0,0,0]),(false,[_,_,_])],false,[(false,[(false,[(_,_)]),(false,[(_,_)]),(false,[(_,_)])]),tr2]⟩ _ _ _ rfl (yv (i:=1) (j:=3) (l:=8) ⟨_,_,_,_,false,[(_,_,_),(_,_,_)],false,[(false,[0,0,0]),(false,[_,_,_])],false,[(false,[(false,[(_,_)]),(false,[(_,_)]),(false,[(_,_)])]),tr2]⟩ rfl (yw (i:=2) (j:=3) rfl rfl) (yx rfl rfl rfl rfl rfl)) (.low rfl) (.low rfl) (.low rfl) ?_|(refine zb.spF F ⟨_,_,_,_,false,[(_,_,_),(_,_,_)],false,[(false,[0,0,0]),(false,[_,_,_])],false,[(false,[(false,[(_,_)]),(false,[(_,_)]),(false,[(_,_)])]),tr2]⟩ _ _ _ (_,_) [(_,_),(_,_),(_,_),(_,_)] _ rfl (yv (i:=1) (j:=3) (l:=8) ⟨_,_,_,_,false,[(_,_,_),(_,_,_)],false,[(false,[0,0,0]),(false,[_,_,_])],false,[(false,[(false,[(_,_)]),(false,[(_,_)]),(false,[(_,_)])]),tr2]⟩ rfl (yw (i:=2) (j:=3) rfl rfl) (yx rfl rfl rfl rfl rfl)) (.low rfl) (.low rfl) (Froz.grow (i:=9) rfl rfl rfl) (.low rfl) ⟨by dsimp only;omega,(show (4 : Nat) < 9223372036854775808 by decide),by intro t ht;simp only [List.mem_cons,List.not_mem_nil,or_false] at ht;rcases ht with rfl | rfl | rfl | rfl <;> (dsimp only;omega)⟩ ?_)|refine zb.taF F ⟨_,_,_,_,false,[(_,_,_),(_,_,_)],false,[(false,[0,0,0]),(false,[_,_,_])],false,[(false,[(false,[(_,_)]),(false,[(_,_)]),(false,[(_,_)])]),tr2]⟩ _ rfl (yv (i:=1) (j:=3) (l:=8) ⟨_,_,_,_,false,[(_,_,_),(_,_,_)],false,[(false,[0,0,0]),(false,[_,_,_])],false,[(false,[(false,[(_,_)]),(false,[(_,_)]),(false,[(_,_)])]),tr2]⟩ rfl (yw (i:=2) (j:=3) rfl rfl) (yx rfl rfl rfl rfl rfl)) (frozTb (pre:=[_,_,_,_,_,_,_,_,_,_,_,_,_]) rfl _ hT') ?_);conv=>whnf)|((with_reducible first|apply XBr.tt|apply XBr.ff|refine XBr.y fun h=>?_|refine XBr.n fun h=>?_|refine XBr.dec (fun h=>?_) fun h=>?_|refine XBr.y1 fun h=>?_|refine XBr.n1 fun h=>?_|refine XBr.beq (fun h=>?_) fun h=>?_|refine XInt.a ?_) <;> conv=>whnf) | with_reducible apply XBr.not|((with_reducible refine XGo.go za [58,73] ?_);conv=>whnf)|fail
 all_goals exact zl.go (k + 1) _ (by omega) (by omega) rfl ⟨rfl,rfl,rfl,rfl,rfl,rfl,rfl,trivial⟩
end GA
end
section
namespace GA
open Go Go.RowKit Go.Proofs
set_option maxHeartbeats 8000000 in
theorem fsLim (F : jg) (hR : Walk Tryz.prog 544 none (vD 3 (theC Tryz.f3.body)) (XFn Tryz.prog tab [.tmp 0] (.bool true)) [] (stX []) []) : Comp Tryz.prog 3 [] (.bool true):=by
 refine Comp.bodyW (T:=tab) (res:=[.tmp 0]) za [58,73] Tryz.func3 rfl (by kernel_rfl) Tryz.ntmps3 rfl (by simp only [List.length_cons,List.length_nil];decide) (by rfl) ?_
 refine Walk.step za [] ?_
 conv=>whnf
 refine XGo.go za [] ?_
 conv=>whnf
 /-
 refine Comp.body (T:=tab) (res:=[.tmp 0]) za [58,73] Tryz.func3 rfl (by kernel_rfl) Tryz.ntmps3 rfl (by simp only [List.length_cons,List.length_nil];decide) (by rfl) ?_;conv=>whnf
 -/
 repeat' ((first|refine zh.a ?_|(with_reducible refine XGo.go za [58,73] ?_));conv=>whnf)
 refine Walk.loopGKW [(51,vA),(52,.int .i64 (17 : Nat))] ⟨rfl,rfl,trivial⟩ (fun i : Nat=>i <= 17) (fun i=>[(53,natA i)]) (fun _=>[]) (fun i=>17 - i) 0 (Nat.zero_le _) rfl ⟨rfl,trivial⟩ ?_ (fun _ _=>Nat.le_refl _) ?_
 ·intro n _
  refine ⟨fun z hz=>(by cases hz),fun z hz=>?_⟩
  simp only [List.cons_append,List.nil_append,List.mem_cons,List.not_mem_nil,or_false] at hz
  rcases hz with rfl | rfl | rfl <;> rfl
 intro i hi
 refine Walk.step za [] ?_
 conv=>whnf
 by_cases hi17 : i < 17
 ·have hll:=limF_len i hi17
  have hlb:=limF_b i hi17
  have hil : ∀ l : List Int,(ints l).length = l.length:=fun l=>List.length_map _
  repeat' first|((first|refine XIx.nat (f:=fun r=>AV.sl false (ints r)) (xs:=limF) hi17 (fun _=>rfl) ?_|(refine zh.mk ⟨rfl,rfl,by unfold Room;rw [hil];constructor <;> omega⟩ ?_)|(refine zh.mk (show (_ :: _ :: ints (limF.getD i default)).length = _ by rw [List.length_cons,List.length_cons,hil];omega) ?_));conv=>whnf)|((with_reducible first|refine XBr.y fun h=>?_|refine XBr.n fun h=>?_|refine XBr.dec (fun h=>?_) fun h=>?_) <;> conv=>whnf)|((first|refine zh.a ?_|(with_reducible refine XGo.go za [58,73] ?_));conv=>whnf)|fail
  obtain ⟨l,hl⟩ : ∃ l,l = limF.getD i default:=⟨_,rfl⟩
  rw [<- hl] at hll hlb ⊢
  clear hl
  obtain ⟨W,hW⟩ : ∃ W : List Int,W = 9223372036854775807 :: -9223372036854775808 :: l:=⟨_,rfl⟩
  have hWl : W.length = 2 + (ints l).length:=by rw [hW,List.length_cons,List.length_cons,hil];omega
  have hWm : 2 + (ints l).length <= 8:=by rw [hil];omega
  have hWb : ∀ x ∈ W,-9223372036854775808 <= x /\ x <= 9223372036854775807:=fun x hx=>by
   rw [hW] at hx
   rcases List.mem_cons.1 hx with rfl | hx
   ·omega
   rcases List.mem_cons.1 hx with rfl | hx
   ·omega
   have:=hlb x hx;omega
  refine Walk.loopGKW [(2,natA i),(51,vA),(52,.int .i64 (17 : Nat)),(53,natA i),(60,.gr 0 (2 + (ints l).length)),(61,.int .i64 (2 + (ints l).length : Nat))] ⟨rfl,rfl,rfl,rfl,rfl,rfl,trivial⟩ (fun k : Nat=>k <= 2 + (ints l).length) (fun k=>[(62,natA k)]) (fun _=>[.grow 3 false (ints W)]) (fun k=>2 + (ints l).length - k) 0 (Nat.zero_le _) (by rw [hW];rfl) ⟨rfl,trivial⟩ ?_ (fun _ _=>Nat.le_refl _) ?_
  ·intro n _
   refine ⟨fun z hz=>?_,fun z hz=>?_⟩
   ·simp only [List.mem_cons,List.not_mem_nil,or_false] at hz
    subst hz;exact lowI _
   simp only [List.cons_append,List.nil_append,List.mem_cons,List.not_mem_nil,or_false] at hz
   rcases hz with rfl | rfl | rfl | rfl | rfl | rfl | rfl <;> first | rfl|(show decide (0 < 1) = true;rfl)
  generalize 2 + (ints l).length = wl at *
  intro k hk
  by_cases hkw : k < wl
  ·rcases (show i < 5 \/ (5 <= i /\ i < 9) \/ (9 <= i /\ i < 13) \/ 13 <= i by omega) with h1 | h1 | h1 | h1
   ·exact fsCase1 F _ i k wl W (by omega) (by omega) hWl hWm hWb hkw
   ·exact fsCase2 F _ i k wl W (by omega) (by omega) hWl hWm hWb hkw
   ·exact fsCase3 F _ i k wl W (by omega) (by omega) hWl hWm hWb hkw
   ·exact fsCase4 F _ i k wl W (by omega) (by omega) hWl hWm hWb hkw
  refine Walk.step za [] ?_
  conv=>whnf
  ·skip
   repeat' first|((with_reducible first|refine XBr.y fun h=>?_|refine XBr.n fun h=>?_|refine XBr.dec (fun h=>?_) fun h=>?_|refine XInt.a ?_) <;> conv=>whnf)|((with_reducible refine XGo.go za [58,73] ?_);conv=>whnf)|fail
   exact zl.go (i + 1) _ (by omega) (by omega) rfl ⟨rfl,rfl,rfl,trivial⟩
 ·obtain rfl : i = 17:=by omega
  refine XGo.go za [] ?_
  conv=>whnf
  refine XBr.no (decide_eq_false (by omega)) ?_
  conv=>whnf
  refine XGo.go za [] ?_
  conv=>whnf
  exact XGo.at [] trivial hR
end GA
end
section
namespace GA
open Go Go.RowKit Go.Proofs
theorem gained_bf (gg : FuncId) (cs : List AV) (s : Sn) (f : Sta -> Int) (x : Sta) (t : Int × Int) (nl : Bool) (y0 : Sta) (l : List Sta) (hl : l.length <= 100) (hc : lowL 0 [(AV.bf gg cs)] = true) (hn : ∀ y ∈ y0 :: l,Comp Tryz.prog gg (cs ++ [staA y]) (.int .i64 (f y))) (hb : ∀ y ∈ y0 :: l,-1 <= f y /\ f y <= 100) :
  Comp Tryz.prog 107 [zF s,staA x,sgA t,.sl nl ((y0 :: l).map staA),(AV.bf gg cs)] (.int .i64 (jQ s f x t (y0 :: l))):=by
 have hb0:=hb y0 List.mem_cons_self
 have e1 : (((y0 :: l).map staA).length : Int) = l.length + 1:=by rw [List.length_map,List.length_cons];omega
 have hsl : List.take (((((y0 :: l).map staA).length : Nat) : Int) - 1).toNat (List.drop (Int.toNat 1) ((y0 :: l).map staA)) = l.map staA:=by
  rw [e1,show ((l.length : Int) + 1 - 1).toNat = l.length by omega]
  show List.take l.length (l.map staA) = _
  rw [<- List.map_take,List.take_length]
 have e2 : ((y0 :: l).length : Int) = l.length + 1:=by rw [List.length_cons];omega
 have e3 : ((l.map staA).length : Int) = l.length:=by rw [List.length_map]
 have hn0:=hn y0 List.mem_cons_self
 refine Comp.body (T:=tab) (res:=[.tmp 10]) za [] Tryz.func107 rfl (by kernel_rfl) Tryz.ntmps107 rfl (by simp only [List.length_cons,List.length_nil];decide) (by simp only [lowL,AV.low,zG,staL,yb,Bool.and_true,Bool.true_and] at hc ⊢;first|exact hc|(rw [hc];rfl)) ?_;conv=>whnf
 repeat' first|((first|refine XIx.b ?_|refine zb.ret hn0 ?_);conv=>whnf)|(rw [hsl];conv=>whnf)|((refine zh.mk ⟨by omega,by omega,by omega,.inr (zbk _)⟩ ?_);conv=>whnf)|fail
 refine Walk.loopGK za [] [(0,_),(4,_),(6,_),(7,_),(10,_),(20,_),(21,_)] ⟨rfl,rfl,rfl,rfl,rfl,rfl,rfl,trivial⟩ (fun k : Nat=>k <= l.length) (fun k=>[(11,.int .i64 ((l.take k).foldl (fun n y=>min n (f y)) (f y0))),(22,natA k)]) (fun _=>[]) (fun k=>l.length - k) 0 (Nat.zero_le _) rfl ⟨rfl,rfl,trivial⟩ ?_ (fun _ _=>(show (0 : Nat) <= 0 from Nat.le_refl 0)) ?_
 ·intro k _
  refine ⟨by simp,fun z hz=>?_⟩
  simp only [List.cons_append,List.nil_append,List.mem_cons,List.not_mem_nil,or_false] at hz
  rcases hz with rfl | rfl | rfl | rfl | rfl | rfl | rfl | rfl | rfl <;> first | rfl|exact zG s|exact yb _|(simp only [lowL,Bool.and_true] at hc;exact hc)
 intro k hk
 have hfx : k < l.length -> (l.take (k + 1)).foldl (fun n y=>min n (f y)) (f y0) = min ((l.take k).foldl (fun n y=>min n (f y)) (f y0)) (f (l.getD k default)):=fun h=>by rw [zD h,List.foldl_append];rfl
 have hfend : k = l.length -> (l.take k).foldl (fun n y=>min n (f y)) (f y0) = minL f (y0 :: l):=fun h=>by rw [h,List.take_length];rfl
 generalize (l.take k).foldl (fun n y=>min n (f y)) (f y0) = v at hfx hfend
 conv=>whnf
 by_cases hlt : k < l.length
 ·have hy : l.getD k default ∈ y0 :: l:=List.mem_cons_of_mem _ (zk hlt)
  have hls:=vT v false [f (l.getD k default)] (by simp)
  have hny:=hn _ hy
  repeat' first|((with_reducible first|refine XBr.y fun h=>?_|refine XBr.n fun h=>?_|refine XBr.dec (fun h=>?_) fun h=>?_|refine XInt.a ?_) <;> conv=>whnf)|((first|refine zh.a ?_|refine XIx.a ?_|refine zb.ret hny ?_|refine zb.ret hls ?_);conv=>whnf)|fail
  refine zl.go (k + 1) [.cells (stC (l.getD k default))] (by omega) (by omega) rfl ⟨rfl,rfl,rfl,rfl,rfl,rfl,rfl,(by rw [hfx hlt];rfl),rfl,trivial⟩
 obtain rfl : k = l.length:=by omega
 have hv:=hfend rfl
 have hge : -1 <= minL f (y0 :: l):=zbS (List.cons_ne_nil _ _) fun y hy=>(hb y hy).1
 have hle : minL f (y0 :: l) <= f y0:=(jZ (f:=f) (List.cons_ne_nil y0 l)).2 y0 List.mem_cons_self
 have hgl : jQ s f x t (y0 :: l) = if v ≠ -1 /\ (x.p : Int) = s.bed /\ t.1 = s.bed then v + 1 else v:=by unfold jQ;rw [<- hv]
 rw [<- hv] at hge hle
 rw [hgl]
 by_cases c1 : v = -1
 ·rw [if_neg (fun h=>h.1 c1)]
  repeat' first|((with_reducible first|apply XBr.ff|refine XBr.y fun h=>?_|refine XBr.n fun h=>?_|refine XBr.dec (fun h=>?_) fun h=>?_|refine XBr.y2 fun h=>?_|refine XBr.n2 fun h=>?_|refine XBr.bne (fun h=>?_) fun h=>?_|apply Chk.go|apply ChkA.go|apply ChkF.go|apply ChkB.go|apply zq.mk) <;> conv=>whnf)|(with_reducible first|apply XAnd.mk|exact trivial)|(exact zg.mk rfl rfl)|(apply Walk.drawN (id:=7) za zd [] [] (hsU _) [_,_,_,_,_,_,_,_,_,_,_,_,_,_,_,_,_,_,_,_,_,_] (by kernel_rfl) rfl)|fail
  exact XOut.int rfl
 by_cases c2 : (x.p : Int) = s.bed
 ·by_cases c3 : t.1 = s.bed
  ·rw [if_pos ⟨c1,c2,c3⟩]
   repeat' first|((with_reducible first|refine XBr.y fun h=>?_|refine XBr.n fun h=>?_|refine XBr.dec (fun h=>?_) fun h=>?_|refine XBr.y1 fun h=>?_|refine XBr.n1 fun h=>?_|refine XBr.beq (fun h=>?_) fun h=>?_|refine XBr.y2 fun h=>?_|refine XBr.n2 fun h=>?_|refine XBr.bne (fun h=>?_) fun h=>?_|refine XInt.a ?_|apply Chk.go|apply ChkA.go|apply ChkF.go|apply ChkB.go|apply zq.mk) <;> conv=>whnf)|(with_reducible first|apply XAnd.mk|exact trivial)|(exact zg.mk rfl rfl)|(apply Walk.drawN (id:=7) za zd [] [] (hsU _) [_,_,_,_,_,_,_,_,_,_,_,_,_,_,_,_,_,_,_,_,_,_] (by kernel_rfl) rfl)|fail
   exact XOut.int rfl
  ·rw [if_neg (fun h=>c3 h.2.2)]
   repeat' first|((with_reducible first|refine XBr.y fun h=>?_|refine XBr.n fun h=>?_|refine XBr.dec (fun h=>?_) fun h=>?_|refine XBr.y1 fun h=>?_|refine XBr.n1 fun h=>?_|refine XBr.beq (fun h=>?_) fun h=>?_|refine XBr.y2 fun h=>?_|refine XBr.n2 fun h=>?_|refine XBr.bne (fun h=>?_) fun h=>?_|apply Chk.go|apply ChkA.go|apply ChkF.go|apply ChkB.go|apply zq.mk) <;> conv=>whnf)|(with_reducible first|apply XAnd.mk|exact trivial)|(exact zg.mk rfl rfl)|(apply Walk.drawN (id:=7) za zd [] [] (hsU _) [_,_,_,_,_,_,_,_,_,_,_,_,_,_,_,_,_,_,_,_,_,_] (by kernel_rfl) rfl)|fail
   exact XOut.int rfl
 ·rw [if_neg (fun h=>c2 h.2.1)]
  repeat' first|((with_reducible first|apply XBr.ff|refine XBr.y fun h=>?_|refine XBr.n fun h=>?_|refine XBr.dec (fun h=>?_) fun h=>?_|refine XBr.y1 fun h=>?_|refine XBr.n1 fun h=>?_|refine XBr.beq (fun h=>?_) fun h=>?_|refine XBr.y2 fun h=>?_|refine XBr.n2 fun h=>?_|refine XBr.bne (fun h=>?_) fun h=>?_|apply Chk.go|apply ChkA.go|apply ChkF.go|apply ChkB.go|apply zq.mk) <;> conv=>whnf)|(with_reducible first|apply XAnd.mk|exact trivial)|(exact zg.mk rfl rfl)|(apply Walk.drawN (id:=7) za zd [] [] (hsU _) [_,_,_,_,_,_,_,_,_,_,_,_,_,_,_,_,_,_,_,_,_,_] (by kernel_rfl) rfl)|fail
  exact XOut.int rfl
def kZ (s : Sn) (x : Sta) : Option (Int × Int):=if zi s x = -1 \/ zi s x = ye s x then none else (zT s x).find? fun t=>zP s (zi s) x t == zi s x
theorem fG (s : Sn) (hb : SnB s) (p m l : Int) (h : sttE s p m l ≠ 0) : Comp Tryz.prog 14 [snA s,xA p m l] (.tup [sgA (0,0),.int .i64 (sttE s p m l)]):=by
 have hs:=jq s hb p m l h
 generalize sttE s p m l = e at h hs
 refine Comp.body (T:=tab) (res:=[.cell 4 32,.cell 5 36]) za [] Tryz.func14 rfl (by kernel_rfl) Tryz.ntmps14 rfl (by simp only [List.length_cons,List.length_nil];decide) (by simp only [lowL,snL,xL];rfl) ?_;conv=>whnf
 repeat' first|((with_reducible first|refine XBr.y2 fun h=>?_|refine XBr.n2 fun h=>?_|refine XBr.bne (fun h=>?_) fun h=>?_) <;> conv=>whnf)|((refine zb.ret hs ?_);conv=>whnf)|fail
 exact ⟨.low rfl⟩
def ruleR (o : Option (Int × Int)) : AV:=.tup [sgA (o.getD (0,0)),.int .i64 (if o.isSome = true then 0 else 6)]
theorem rul_find {s : Sn} {x : Sta} {W : List (Int × Int)} {k : Nat} {p : Int × Int -> Bool} (q : Int × Int -> Bool) (hk : k < W.length) (h0 : ∀ j,j < k -> (q (W.getD j default) && p (W.getD j default)) = false) (hq : q (W.getD k default) = true) (hp : p (W.getD k default) = true) : (W.filter q).find? p = some (W.getD k default):=by
 induction W generalizing k with
 | nil=>simp at hk
 | cons t W ih =>
   cases k with
   | zero =>
     rw [List.getD_cons_zero] at hq hp ⊢
     rw [List.filter_cons,if_pos hq,List.find?_cons,hp]
   | succ k =>
     have h1:=h0 0 (by omega)
     rw [List.getD_cons_zero] at h1
     rw [List.getD_cons_succ] at hq hp ⊢
     have ih':=ih (k:=k) (by simpa using hk) (fun j hj=>by have:=h0 (j + 1) (by omega);rwa [List.getD_cons_succ] at this) hq hp
     rw [List.filter_cons]
     by_cases hqt : q t = true
     ·rw [if_pos hqt,List.find?_cons]
      rw [hqt,Bool.true_and] at h1
      rw [h1];exact ih'
     ·rw [if_neg hqt];exact ih'
theorem rul_none {W : List (Int × Int)} {p q : Int × Int -> Bool} (h0 : ∀ j,j < W.length -> (q (W.getD j default) && p (W.getD j default)) = false) : (W.filter q).find? p = none:=by
 rw [List.find?_eq_none]
 intro t ht
 obtain ⟨h1,h2⟩:=List.mem_filter.1 ht
 obtain ⟨j,hj,rfl⟩:=List.mem_iff_getElem.1 h1
 have:=h0 j hj
 rw [List.getD_eq_getElem?_getD,List.getElem?_eq_getElem hj] at this
 rw [show (some W[j]).getD default = W[j] from rfl,h2,Bool.true_and] at this
 rw [this];simp
def rulB (s : Sn) (x : Sta) (t : Int × Int) : Bool:=!(zm s x t).isEmpty && zP s (zi s) x t == zi s x
set_option maxHeartbeats 4000000 in
theorem zc6 (s : Sn) (hb : SnB s) (p m l : Int) (h : sttE s p m l = 0) : Comp Tryz.prog 14 [snA s,xA p m l] (ruleR (kZ s (stN p m l))):=by
 have hs:=js s hb p m l h
 obtain ⟨ok,h1,h2,h3,h4⟩:=yy.1 h
 have hxe:=v9 h1.1 h2.1 (show 0 <= l by omega)
 have hx:=vL h
 have hv:=st_vld h
 rw [hxe] at hs ⊢
 generalize stN p m l = x at hs hx hv
 clear h h1 h2 h3 h4 hxe
 have p1:=ok.p1;have p2:=ok.p2;have l1:=ok.l1;have l2:=ok.l2;have w1:=ok.w1
 have x1:=hx.p;have x2:=hx.m;have x3:=hx.l
 have hw:=jG s ok
 have hof:=wof_c s ok x hv
 have hho:=zbT s x
 have hst:=qx s x
 have hwk:=yQ s x
 by_cases hc : zi s x = -1 \/ zi s x = ye s x
 ·have hr : kZ s x = none:=if_pos hc
  rw [hr]
  generalize zi s x = v at hof hc hwk
  generalize ye s x = hz at hho hc
  by_cases hc1 : v = -1
  ·refine Comp.body (T:=tab) (res:=[.cell 4 32,.cell 5 36]) za [] Tryz.func14 rfl (by kernel_rfl) Tryz.ntmps14 rfl (by simp only [List.length_cons,List.length_nil];decide) (by simp only [lowL,snL,staL];rfl) ?_;conv=>whnf
   repeat' first|((with_reducible first|apply XBr.tt|refine XBr.y1 fun h=>?_|refine XBr.n1 fun h=>?_|refine XBr.beq (fun h=>?_) fun h=>?_|refine XBr.y2 fun h=>?_|refine XBr.n2 fun h=>?_|refine XBr.bne (fun h=>?_) fun h=>?_|apply Chk.go|apply ChkA.go|apply ChkF.go|apply ChkB.go|apply zq.mk) <;> conv=>whnf)|(with_reducible first|apply XAnd.mk|exact trivial)|(exact zg.mk rfl rfl)|(apply Walk.drawN (id:=6) za zd [] [] (hsU _) [_,_,_,_,_,_,_,_,_] (by kernel_rfl) rfl)|((first|refine zb.ret hs ?_|refine zb.ret hw ?_|refine zb.ret hof ?_);conv=>whnf)|fail
   exact ⟨.low rfl⟩
  ·have hc2 : v = hz:=by omega
   refine Comp.body (T:=tab) (res:=[.cell 4 32,.cell 5 36]) za [] Tryz.func14 rfl (by kernel_rfl) Tryz.ntmps14 rfl (by simp only [List.length_cons,List.length_nil];decide) (by simp only [lowL,snL,staL];rfl) ?_;conv=>whnf
   repeat' first|((with_reducible first|refine XBr.y1 fun h=>?_|refine XBr.n1 fun h=>?_|refine XBr.beq (fun h=>?_) fun h=>?_|refine XBr.y2 fun h=>?_|refine XBr.n2 fun h=>?_|refine XBr.bne (fun h=>?_) fun h=>?_|apply Chk.go|apply ChkA.go|apply ChkF.go|apply ChkB.go|apply zq.mk) <;> conv=>whnf)|(with_reducible first|apply XAnd.mk|exact trivial)|(exact zg.mk rfl rfl)|(apply Walk.drawN (id:=6) za zd [] [] (hsU _) [_,_,_,_,_,_,_,_,_] (by kernel_rfl) rfl)|((first|refine zb.ret hs ?_|refine zb.ret hw ?_|refine zb.ret hof ?_|refine zb.ret hho ?_);conv=>whnf)|fail
   exact ⟨.low rfl⟩
 have hr : kZ s x = (zT s x).find? fun t=>zP s (zi s) x t == zi s x:=if_neg hc
 have hfk : ∀ k,k < (waysL s x.p).length -> (∀ j,j < k -> rulB s x ((waysL s x.p).getD j default) = false) -> rulB s x ((waysL s x.p).getD k default) = true -> kZ s x = some ((waysL s x.p).getD k default):=fun k hk h0 h1=>by
  rw [hr]
  unfold rulB at h0 h1
  rw [Bool.and_eq_true] at h1
  exact rul_find (s:=s) (x:=x) (fun t=>!(zm s x t).isEmpty) hk h0 h1.1 h1.2
 have hfn : (∀ j,j < (waysL s x.p).length -> rulB s x ((waysL s x.p).getD j default) = false) -> kZ s x = none:=fun h0=>by
  rw [hr];exact rul_none h0
 have hgw:=fun (t : Int × Int) (y0 : Sta) (L : List Sta) (ha : zm s x t = y0 :: L)=>gained_bf 104 [wsA s] s (zi s) x t false y0 L (by have:=y8 s x t;rw [ha,List.length_cons] at this;omega) (by simp only [lowL,AV.low,zaE];rfl) (fun y hy=>wof_c s ok y (yf ok (ha ▸ hy))) (fun y hy=>⟨yQ s y,by have:=vv s y (yf ok (t:=t) (x:=x) (ha ▸ hy)).2.1;omega⟩)
 have hrb : ∀ t,rulB s x t = (!(zm s x t).isEmpty && zP s (zi s) x t == zi s x):=fun t=>rfl
 have hge:=fun t=>gG s (zi s) x t
 generalize kZ s x = rr at hfk hfn
 have hc':=not_or.1 hc
 clear hc hr
 generalize zi s x = v at hof hc' hwk hrb
 generalize ye s x = hz at hho hc'
 have hc1:=hc'.1
 have hc2:=hc'.2
 have hmg : mget (x.p : Int) ((keyF s).zip ((esF s s.places.toNat).map (·.2))) = some (.sl false ((waysL s x.p).map sgA)):=by
  unfold keyF;rw [vJ];exact wI s _ _ (by omega)
 have hwl : (waysL s x.p).length <= 55:=by
  have h:=yo s x.p s.places.toNat
  have h2 : s.places.toNat * (1 + s.ways.length) <= 5 * 11:=Nat.mul_le_mul (by omega) (by omega)
  show (yc s x.p s.places.toNat).length <= 55
  omega
 have hwm:=fun t (h : t ∈ waysL s x.p)=>yn ok h
 generalize waysL s x.p = W at hmg hwl hwm hfk hfn
 have e1 : ((W.map sgA).length : Int) = W.length:=by rw [List.length_map]
 refine Comp.body' (T:=tab) (res:=[.cell 4 32,.cell 5 36]) za [] Tryz.func14 rfl (by kernel_rfl) Tryz.ntmps14 rfl (by simp only [List.length_cons,List.length_nil];decide) (by simp only [lowL,snL,staL];rfl) ?_;conv=>whnf
 repeat' first|((with_reducible first|refine XBr.y1 fun h=>?_|refine XBr.n1 fun h=>?_|refine XBr.beq (fun h=>?_) fun h=>?_|refine XBr.y2 fun h=>?_|refine XBr.n2 fun h=>?_|refine XBr.bne (fun h=>?_) fun h=>?_|apply Chk.go|apply ChkA.go|apply ChkF.go|apply ChkB.go|apply zq.mk) <;> conv=>whnf)|(with_reducible first|apply XAnd.mk|exact trivial)|(exact zg.mk rfl rfl)|(apply Walk.drawN (id:=6) za zd [] [] (hsU _) [_,_,_,_,_,_,_,_,_] (by kernel_rfl) rfl)|((first|refine zb.ret hs ?_|refine zb.ret hw ?_|refine zb.ret hof ?_|refine zb.ret hho ?_|refine zb.ret hst ?_);conv=>whnf)|fail
 refine Walk.range (own:=[]) za [(3,.pim (stC x)),(4,.ptr 0 0),(5,.ptr 1 0),(6,.ptr 2 0),(8,.ptr 3 0),(9,.ptr 4 0)] rfl ⟨rfl,rfl,rfl,rfl,rfl,rfl,trivial⟩ ?_
 intro fn
 refine zb.inl (T:=tab) (res:=[]) za [] Tryz.func264 rfl (by kernel_rfl) Tryz.ntmps264 rfl (by simp only [List.length_append,List.length_cons,List.length_nil];decide) ?_;conv=>whnf
 repeat' first|((with_reducible first|apply Chk.go|apply ChkA.go|apply ChkF.go|apply ChkB.go|apply zq.mk);conv=>whnf)|(with_reducible first|apply XAnd.mk|exact trivial)|(exact zg.mk rfl rfl)|(apply Walk.drawN (id:=0) za zd [] [] (hsU _) [_,_,_,_,_,_,_,_,_] (by kernel_rfl) rfl)|((first|refine jM.dskF ?_|refine kh.mk' hmg ?_);conv=>whnf)|fail
 refine Walk.loopGKL za [] _ [(0,_),(1,_),(2,_),(13,_),(14,_)] ⟨rfl,rfl,rfl,rfl,rfl,trivial⟩ (fun k : Nat=>k <= W.length /\ ∀ j,j < k -> rulB s x (W.getD j default) = false) (fun k=>[(15,natA k)]) (fun lp k=>[.cells [.int .i64 0,.int .i64 0],.cells [.int .i64 0],.cells [zF s],.cells [wsA s],.cells [.int .i64 v],.raw (.deferred (some [])),lp]) (fun k=>W.length - k) 0 ⟨Nat.zero_le _,fun j hj=>by omega⟩ rfl ⟨rfl,trivial⟩ ?_ (fun _ _=>(show (7 : Nat) <= 7 from Nat.le_refl 7)) ?_
 ·intro k _
  refine ⟨fun z hz=>?_,fun z hz=>?_⟩
  ·show z.low 7 = true
   simp only [List.mem_cons,List.not_mem_nil,or_false] at hz
   rcases hz with rfl | rfl | rfl | rfl | rfl | rfl | rfl
   ·rfl
   ·rfl
   ·show ((zF s).low 7 && true) = true
    rw [zG];rfl
   ·show ((wsA s).low 7 && true) = true
    rw [zaE];rfl
   ·rfl
   ·rfl
   ·rfl
  ·show z.2.low 7 = true
   simp only [List.cons_append,List.nil_append,List.mem_cons,List.not_mem_nil,or_false] at hz
   rcases hz with rfl | rfl | rfl | rfl | rfl | rfl <;> first | rfl|exact zN _|(simp only [AV.low,lowL,zG];rfl)
 rintro k ⟨hk,hI⟩
 conv=>whnf
 by_cases hlt : k < W.length
 ·have hw:=hwm _ (zk (d:=default) hlt)
  have hfa:=wq s ok x hx (W.getD k default) (by omega) (by omega)
  have hgk:=hgw (W.getD k default)
  have hrk:=hrb (W.getD k default)
  have hek:=hge (W.getD k default)
  have hfk:=hfk k hlt hI
  cases haf : zm s x (W.getD k default) with
  | nil =>
    rw [haf] at hfa hrk
    have e0 : (([] : List AV).length : Int) = 0:=rfl
    have hfa' : Comp Tryz.prog 246 [zF s,staA x,sgA (W.getD k default)] (.sl true []):=hfa
    repeat' first|((with_reducible first|apply XBr.ff|refine XBr.y fun h=>?_|refine XBr.n fun h=>?_|refine XBr.dec (fun h=>?_) fun h=>?_|refine XInt.a ?_) <;> conv=>whnf)|((first|refine XIx.a ?_|refine zb.ret hfa' ?_);conv=>whnf)|fail
    refine zl.go (k + 1) [.cells (sgA (W.getD k default)).cells] ⟨by omega,fun j hj=>?_⟩ (by omega) rfl ⟨rfl,rfl,rfl,rfl,rfl,rfl,trivial⟩
    by_cases e : j = k
    ·subst e;rw [hrk];rfl
    ·exact hI j (by omega)
  | cons y0 L =>
    have hgk:=hgk y0 L haf
    rw [haf] at hfa hrk hek
    rw [<- hek] at hgk
    have e2 : (((y0 :: L).map staA).length : Int) = L.length + 1:=by rw [List.length_map,List.length_cons];omega
    have hfa' : Comp Tryz.prog 246 [zF s,staA x,sgA (W.getD k default)] (.sl false ((y0 :: L).map staA)):=hfa
    generalize zP s (zi s) x (W.getD k default) = gz at hgk hrk
    have hrk' : rulB s x (W.getD k default) = (gz == v):=hrk
    by_cases hgv : gz = v
    ·have hrr:=hfk (by rw [hrk',hgv];simp)
     rw [hrr]
     repeat' first|((with_reducible first|apply XBr.tt|refine XBr.y fun h=>?_|refine XBr.n fun h=>?_|refine XBr.dec (fun h=>?_) fun h=>?_) <;> conv=>whnf)|((first|(first|refine XIx.a ?_|refine zb.ret hfa' ?_)|((refine wZ.go (own:=[]) za rfl rfl (by decide) ?_);intro ρ));conv=>whnf)|fail
     apply Walk.drawX za zd [] [] (hsK _) [_,_,_,_,_,_,_,_,_] (by kernel_rfl) rfl
     ·skip
      repeat' first|((with_reducible first|apply Chk.go|apply ChkA.go);conv=>whnf)|(with_reducible first|apply XAnd.mk|exact trivial)|(exact zg.mk rfl rfl)|((refine zb.ret hgk ?_);conv=>whnf)|fail
     ·skip
      repeat' first|((with_reducible first|apply ChkF.go|apply ChkB.go);conv=>whnf)|(with_reducible first|apply XAnd.mk|exact trivial)|fail
     conv=>whnf
     repeat' first|((with_reducible first|apply XBr.tt|apply XBr.ff|refine XBr.y1 fun h=>?_|refine XBr.n1 fun h=>?_|refine XBr.beq (fun h=>?_) fun h=>?_) <;> conv=>whnf) | with_reducible apply XBr.not|fail
     exact ⟨.low rfl⟩
    ·skip
     repeat' first|((with_reducible first|apply XBr.tt|refine XBr.y fun h=>?_|refine XBr.n fun h=>?_|refine XBr.dec (fun h=>?_) fun h=>?_) <;> conv=>whnf)|((first|(first|refine XIx.a ?_|refine zb.ret hfa' ?_)|((refine wZ.go (own:=[]) za rfl rfl (by decide) ?_);intro ρ));conv=>whnf)|fail
     apply Walk.drawX za zd [] [] (hsK _) [_,_,_,_,_,_,_,_,_] (by kernel_rfl) rfl
     ·skip
      repeat' first|((with_reducible first|apply Chk.go|apply ChkA.go);conv=>whnf)|(with_reducible first|apply XAnd.mk|exact trivial)|(exact zg.mk rfl rfl)|((refine zb.ret hgk ?_);conv=>whnf)|fail
     ·skip
      repeat' first|((with_reducible first|apply ChkF.go|apply ChkB.go);conv=>whnf)|(with_reducible first|apply XAnd.mk|exact trivial)|fail
     conv=>whnf
     repeat' first|((with_reducible first|apply XBr.tt|refine XBr.y1 fun h=>?_|refine XBr.n1 fun h=>?_|refine XBr.beq (fun h=>?_) fun h=>?_|refine XInt.a ?_) <;> conv=>whnf) | with_reducible apply XBr.not|fail
     refine zl.go (k + 1) [.cells (sgA (W.getD k default)).cells,.cells (sgA (W.getD k default)).cells] ⟨by omega,fun j hj=>?_⟩ (by omega) rfl ⟨rfl,rfl,rfl,rfl,rfl,rfl,trivial⟩
     by_cases e : j = k
     ·subst e;rw [hrk'];simpa using hgv
     ·exact hI j (by omega)
 obtain rfl : k = W.length:=by omega
 rw [hfn hI]
 repeat' ((with_reducible first|refine XBr.y fun h=>?_|refine XBr.n fun h=>?_|refine XBr.dec (fun h=>?_) fun h=>?_) <;> conv=>whnf)
 exact ⟨.low rfl⟩
end GA
end
section
namespace GA
open Go Go.RowKit Go.Proofs
def zR (s : Sn) (m : Nat) : Int:=(zC s s.home.toNat (allN s)).foldl (fun n l=>min n (zi s ⟨s.home.toNat,m,l⟩)) 60
theorem startZ_ge {s : Sn} {m : Nat} {c : Int} (h0 : c <= 60) (h : ∀ l ∈ zC s s.home.toNat (allN s),c <= zi s ⟨s.home.toNat,m,l⟩) : c <= zR s m:=by
 rcases (jt (f:=fun l=>zi s ⟨s.home.toNat,m,l⟩) (l:=zC s s.home.toNat (allN s)) (b:=60)).1 with e | ⟨l,hl,e⟩
 ·unfold zR;rw [e];exact h0
 ·unfold zR;rw [e];exact h l hl
theorem startZ_lo {s : Sn} {m : Nat} : -1 <= zR s m:=startZ_ge (by omega) fun l _=>yQ s _
where
 bit_some {l : Nat} (h : l ≠ 0) : ∃ j,l.testBit j = true:=by
  refine Classical.byContradiction fun h'=>h (vk fun j=>?_)
  rw [Nat.zero_testBit]
  cases hb : l.testBit j with
  | false=>rfl
  | true=>exact absurd ⟨j,hb⟩ h'
def tolR (p i : Nat) (r : Rw) : Rw:=(false,r.2.set p (i : Int))
def tolS (s : Sn) (p : Nat) : Sn:={ s with nk:=false,looks:=vecF s.looks.length fun i=>tolR p i (s.looks.getD i default) }
theorem jY {s : Sn} (ok : SnOk s) {p : Nat} (hp : (p : Int) < s.places) : SnOk (tolS s p):=by
 have t2:=ok.t2;have k1:=ok.k1
 have hm : ∀ l ∈ (tolS s p).looks,∃ i,i < s.looks.length /\ l = tolR p i (s.looks.getD i default):=fun l hl=>by
  obtain ⟨i,hi,rfl⟩:=yd.1 (show l ∈ vecF s.looks.length _ from hl)
  exact ⟨i,hi,rfl⟩
 refine ⟨ok.p1,ok.p2,ok.t1,ok.t2,ok.w1,(zx _ _).trans ok.k1,fun l hl=>?_,ok.tl,ok.l1,ok.l2,ok.wm,fun l hl n hn=>?_,ok.h1,ok.b1,ok.wp,ok.hb,ok.wa,ok.sp⟩
 ·obtain ⟨i,hi,rfl⟩:=hm l hl
  show (((s.looks.getD i default).2.set p (i : Int)).length : Int) = s.places
  rw [List.length_set];exact ok.kl _ (zk hi)
 ·obtain ⟨i,hi,rfl⟩:=hm l hl
  rcases List.mem_or_eq_of_mem_set hn with hn | rfl
  ·exact ok.kn _ (zk hi) n hn
  ·omega
end GA
end
section
namespace GA
open Go Go.RowKit Go.Proofs
structure WyOk (P p : Int) (W : List Wy) : Prop where
 w : ∀ w ∈ W,1 <= w.2.2 /\ w.2.2 <= 5 /\ ((w.1 = w.2.1 - 1 /\ 1 <= w.2.1 /\ w.2.1 < p) \/ (0 <= w.2.1 /\ w.2.1 <= w.1 - 2 /\ w.1 < p))
 n : ∀ i,i < W.length -> ((W.getD i default).1 == (W.getD i default).2.1 ||(W.take i).any fun x=>yh x (W.getD i default).1 (W.getD i default).2.1) = false
 l : (W.length : Int) <= 2 * (p - 1)
theorem WyOk.nil {P : Int} : WyOk P 1 []:=⟨by simp,fun i hi=>by simp at hi,by simp⟩
theorem rep_app {W : List Wy} {w : Wy} (h : ∀ i,i < W.length -> ((W.getD i default).1 == (W.getD i default).2.1 ||(W.take i).any fun x=>yh x (W.getD i default).1 (W.getD i default).2.1) = false) (h1 : w.1 ≠ w.2.1) (h2 : ∀ x ∈ W,yh x w.1 w.2.1 = false) :
  ∀ i,i < (W ++ [w]).length -> (((W ++ [w]).getD i default).1 == ((W ++ [w]).getD i default).2.1 ||((W ++ [w]).take i).any fun x=>yh x ((W ++ [w]).getD i default).1 ((W ++ [w]).getD i default).2.1) = false:=by
 intro i hi
 rw [List.length_append,List.length_singleton] at hi
 by_cases e : i < W.length
 ·have e1 : (W ++ [w]).getD i default = W.getD i default:=by rw [List.getD_eq_getElem?_getD,List.getD_eq_getElem?_getD,List.getElem?_append_left e]
  rw [e1,List.take_append_of_le_length (by omega)]
  exact h i e
 ·have e0 : i = W.length:=by omega
  have e1 : (W ++ [w]).getD i default = w:=by rw [List.getD_eq_getElem?_getD,e0,List.getElem?_append_right (Nat.le_refl _),Nat.sub_self];rfl
  rw [e1,e0,List.take_append_of_le_length (Nat.le_refl _),List.take_length,Bool.or_eq_false_iff]
  refine ⟨by simpa using h1,?_⟩
  rw [List.any_eq_false]
  intro x hx
  rw [h2 x hx];simp
theorem WyOk.one {P p m : Int} {W : List Wy} (h : WyOk P p W) (hp : 1 <= p) (h1 : 1 <= m) (h2 : m <= 5) : WyOk P (p + 1) (W ++ [(p - 1,p,m)]):=by
 refine ⟨fun w hw=>?_,rep_app h.n (by dsimp only;omega) fun x hx=>?_,?_⟩
 ·rcases List.mem_append.1 hw with hw | hw
  ·have:=h.w w hw;omega
  ·rw [List.mem_singleton] at hw;subst hw;dsimp only;omega
 ·rw [<- Bool.not_eq_true,yT]
  have:=h.w x hx
  dsimp only;omega
 ·have:=h.l
  rw [List.length_append,List.length_singleton];omega
theorem sp_one {last lo hi : Int} (h1 : 0 <= lo) (h2 : lo <= hi) (h3 : hi <= last) : spE last none [(lo,hi)] = 0:=by
 rw [spE,spE]
 rw [if_neg (by rw [zr.2 ⟨h1,by first | omega|(dsimp only;omega)⟩,zr.2 ⟨h2,h3⟩];simp),if_neg (by simp [gc])]
end GA
end
section
namespace GA
open Go Go.RowKit Go.Proofs
theorem tmI {x k : Int} (hx : 0 <= x) (hk : 0 < k) : 0 <= x.tmod k /\ x.tmod k < k:=by
 rw [Int.tmod_eq_emod_of_nonneg hx]
 exact ⟨Int.emod_nonneg _ (by omega),Int.emod_lt_of_pos _ hk⟩
theorem tdI {x k : Int} (hx : 0 <= x) (hk : 0 < k) : 0 <= x.tdiv k /\ x.tdiv k <= x:=by
 rw [Int.tdiv_eq_ediv_of_nonneg hx]
 exact ⟨Int.ediv_nonneg hx (by omega),Int.ediv_le_self _ hx⟩
theorem sh3 (b : Int) (h0 : 1 <= b) (h : b <= 3) : 2 <= (1 : Int) * 2 ^ (min b.toNat IntKind.i64.bits) /\ (1 : Int) * 2 ^ (min b.toNat IntKind.i64.bits) <= 8:=by
 have : b = 1 \/ b = 2 \/ b = 3:=by omega
 rcases this with rfl | rfl | rfl <;> decide
theorem zbE (a b : List Int) : ints (a ++ b) = ints a ++ ints b:=List.map_append
theorem sp_gap {last lo hi : Int} (h1 : 0 <= lo) (h3 : lo + 2 < hi) (h4 : hi <= last) : spE last none [(lo,lo),(lo + 2,hi)] = 0:=by
 rw [spE,spE,spE]
 rw [if_neg (by rw [zr.2 ⟨h1,by first | omega|(dsimp only;omega)⟩,zr.2 ⟨by first | omega|(dsimp only;omega),by first | omega|(dsimp only;omega)⟩];simp),if_neg (by simp [gc]),if_neg (by rw [zr.2 ⟨by first | omega|(dsimp only;omega),by first | omega|(dsimp only;omega)⟩,zr.2 ⟨by first | omega|(dsimp only;omega),by first | omega|(dsimp only;omega)⟩];simp),if_neg (by simp [gc])]
theorem mk40_ok {P h bd last : Int} {W : List Wy} {looks : List Rw} {truths : List Tru} {nw nk nt : Bool} (hP : 2 <= P /\ P <= 4) (hh : 0 <= h /\ h <= 1) (hb : 0 <= bd /\ bd <= 1) (hne : h ≠ bd) (hl : 4 <= last /\ last <= 7) (hW : WyOk P P W)
  (hk : ∀ r ∈ looks,(r.2.length : Int) = P /\ ∀ n ∈ r.2,0 <= n /\ n <= 3) (ht : ∀ t ∈ truths,(t.2.length : Int) = P /\ ∀ r ∈ t.2,spE last none r.2 = 0 /\ r.2.length <= 2) (hkl : looks.length = truths.length) (ht1 : 1 <= truths.length) (ht2 : truths.length <= 3) :
  SnOk ⟨P,h,bd,last,nw,W,nk,looks,nt,truths⟩ /\ SnB ⟨P,h,bd,last,nw,W,nk,looks,nt,truths⟩:=by
 have hwl:=hW.l
 refine ⟨⟨by dsimp only;omega,by dsimp only;omega,ht1,by dsimp only;omega,by dsimp only;omega,hkl,fun l h=>(hk l h).1,fun t h=>(ht t h).1,by dsimp only;omega,by dsimp only;omega,fun w hw=>?_,fun l h n hn=>(hk l h).2 n hn,by dsimp only;omega,by dsimp only;omega,fun w hw=>?_,by dsimp only;omega,hW.n,fun t h r hr=>((ht t h).2 r hr).1⟩,
  ⟨by dsimp only;omega,by dsimp only;omega,by dsimp only;omega,fun r h=>by have:=(hk r h).1;omega,fun t h=>by have:=(ht t h).1;omega,fun t h r hr=>by have:=((ht t h).2 r hr).2;omega⟩⟩
 ·have:=hW.w w hw;first | omega|(dsimp only;omega)
 ·have:=hW.w w hw;first | omega|(dsimp only;omega)
theorem fRule_e (s : Sn) (hb : SnB s) (p m l : Int) : ∃ (t : Int × Int) (e : Int),(-9223372036854775808 <= t.2 /\ t.2 <= 9223372036854775807) /\ Comp Tryz.prog 14 [snA s,xA p m l] (.tup [sgA t,.int .i64 e]):=by
 by_cases h : sttE s p m l = 0
 ·refine ⟨(kZ s (stN p m l)).getD (0,0),_,?_,zc6 s hb p m l h⟩
  obtain ⟨ok,h1,h2,h3,h4⟩:=yy.1 h
  cases hr : kZ s (stN p m l) with
  | none=>exact ⟨by decide,by decide⟩
  | some t =>
    unfold kZ at hr
    split at hr
    ·cases hr
    ·have hm:=List.mem_of_find?_eq_some hr
     have:=yn ok (List.mem_filter.1 hm).1
     show -9223372036854775808 <= t.2 /\ t.2 <= 9223372036854775807
     omega
 ·exact ⟨(0,0),_,⟨by decide,by decide⟩,fG s hb p m l h⟩
theorem fsAsked (F : jg) (s : Sn) (p m l : Int) (t : Int × Int) (ht : -9223372036854775808 <= t.2 /\ t.2 <= 9223372036854775807) (L : List (Int × Int)) (hL : L.length < 9223372036854775808) (hLb : ∀ t ∈ L,-9223372036854775808 <= t.2 /\ t.2 <= 9223372036854775807) (nt : Bool) (T : List Rs) :
  Comp Tryz.prog 15 [snA s,xA p m l,sgA t,.sl false (L.map sgA),.sl nt (T.map rsT)] (.bool true):=by
 have a1:=F.sands s p m l
 have a2:=F.steps s p m l t ht.1 ht.2 false L hL hLb m
 have a3:=F.worth s p m l
 have a4:=F.tables s nt T
 have a5:=F.starts s m l
 refine Comp.body (T:=tab) (res:=[.tmp 10]) za [] Tryz.func15 rfl (by kernel_rfl) Tryz.ntmps15 rfl (by simp only [List.length_cons,List.length_nil];decide) (by simp only [lowL,snL,AV.low,xL,sgL,zN,zZ];rfl) ?_;conv=>whnf
 skip
 refine Walk.norm za [] [(3,_),(4,_),(5,_),(6,_),(7,_),(10,_)] ⟨rfl,rfl,rfl,rfl,rfl,rfl,trivial⟩ ?_
 conv=>whnf
 repeat' first|((first|(with_reducible apply XBr.tt)|(first|refine zb.ret a1 ?_|refine zb.ret a2 ?_|refine zb.ret a3 ?_|refine zb.ret a4 ?_|refine zb.ret a5 ?_));conv=>whnf)|fail
 all_goals exact XOut.bool rfl
theorem zb.fMade {s : Sn} (hb : SnB s) (ok : SnOk s) {rs : List AV} {H : List Blk} {k : AV -> List Blk -> Prop} (j : Nat) (hj : H.length = j) (hr : rs = [snA s]) (hk : ∀ T,T = memS j (s.last.toNat + 1) (allN s + 1) s.places.toNat (fun p m l=>zi s ⟨p,m,l⟩) -> k (.tup [.gr j s.places.toNat,.int .i64 0]) (H ++ T)) : zb Tryz.prog 8 rs H k:=by
 subst hj;subst hr
 refine zb.give (ft s hb ok) ?_
 exact hk _ rfl
theorem tab40 {M N P : Nat} {W : T3 Int} {T : List Blk} (hP : 1 <= P) (hM : 3 <= M) (hN : 2 <= N) (hT : T = memS 6 M N P W) : ∃ tb rw cl : List AV,(lget T 0 = some (.grow 23 false tb) /\ tb.length = P /\ tb.getD 0 default = .gr 7 M) /\ (lget T 1 = some (.grow 22 false rw) /\ rw.length = M /\ rw.getD 2 default = .gr 10 N) /\ (lget T 4 = some (.grow 3 false cl) /\ cl.length = N /\ cl.getD 1 default = .int .i64 (W 0 2 1)) /\ 4 < T.length /\ ∀ v,T.set 4 (.grow 3 false (cl.set 1 (.int .i64 v))) = memS 6 M N P (upd3 W 0 2 1 v):=by
 have r0 : rowI M 0 = 1:=by unfold rowI;omega
 have c2 : celI M 0 2 = 4:=by unfold celI;rw [r0]
 have hl : ∀ i,lget T i = lget (List.replicate 6 Blk.dead ++ T) (6 + i):=fun i=>by rw [zo,qa (by rfl)]
 have h0:=memS_t (pre:=List.replicate 6 Blk.dead) (b:=6) (M:=M) (N:=N) (P0:=P) (W:=W) rfl
 have h1:=memS_r (pre:=List.replicate 6 Blk.dead) (b:=6) (M:=M) (N:=N) (P0:=P) (W:=W) (p:=0) rfl (by omega)
 have h4:=memS_c (pre:=List.replicate 6 Blk.dead) (b:=6) (M:=M) (N:=N) (P0:=P) (W:=W) (p:=0) (m:=2) rfl (by omega) (by omega)
 rw [<- hT] at h0 h1 h4
 rw [r0] at h1
 rw [c2] at h4
 rw [decide_eq_false (by omega)] at h0
 refine ⟨_,_,_,⟨(hl 0).trans h0,zx _ _,?_⟩,⟨(hl 1).trans h1,zx _ _,?_⟩,⟨(hl 4).trans h4,y7 _ _,zvs_at (by omega)⟩,?_,fun v=>?_⟩
 ·rw [kv _ (by omega),r0]
 ·rw [kv _ (by omega),c2]
 ·rw [hT,wO];unfold rowI
  have : 1 * (M + 1) <= P * (M + 1):=Nat.mul_le_mul_right _ hP
  omega
 ·have h:=vc (pre:=List.replicate 6 Blk.dead) (b:=6) (M:=M) (N:=N) (P0:=P) (W:=W) (p:=0) (m:=2) (l:=1) (v:=v) rfl (by omega) (by omega)
  rw [<- hT,c2,vi (by rfl)] at h
  rw [<- List.append_cancel_left h]
  congr 2
  exact zbu _ _ _ _
theorem zb.askF (F : jg) (s : Sn) (p m l : Int) (t u : Int × Int) (ht : -9223372036854775808 <= t.2 /\ t.2 <= 9223372036854775807) (hu : -9223372036854775808 <= u.2 /\ u.2 <= 9223372036854775807) {W : T3 Int} {M N P : Nat} {T H pre : List Blk} {rs : List AV} {k : AV -> List Blk -> Prop} (hr : rs = [snA s,xA p m l,sgA t,.sl false [sgA t,sgA u],.gr 6 P]) (hp : pre.length = 6) (hH : H = pre ++ T) (hT : T = memS 6 M N P W) (hk : k (.bool true) H) : zb Tryz.prog 15 rs H k:=by
 subst hr;subst hH;subst hT
 refine zb.lend (fsAsked F s p m l t ht [t,u] (show (2 : Nat) < 9223372036854775808 by decide) (fun x hx=>?_) (decide (P = 0)) (mkT P M N W)) (.cons (.low (show (snA s).low 0 = true from snL s)) (.cons (.low rfl) (.cons (.low rfl) (.cons (.low rfl) (.cons (zaR W hp) .nil))))) rfl hk
 simp only [List.mem_cons,List.not_mem_nil,or_false] at hx
 rcases hx with rfl | rfl
 ·exact ht
 ·exact hu
end GA
end
section
namespace GA
open Go Go.RowKit Go.Proofs
set_option maxHeartbeats 8000000 in
theorem fsSome (F : jg) (hR : Walk Tryz.prog 544 none (vD 4 (theC Tryz.f3.body)) (XFn Tryz.prog tab [.tmp 0] (.bool true)) [] (stX []) []) : Walk Tryz.prog 544 none (vD 3 (theC Tryz.f3.body)) (XFn Tryz.prog tab [.tmp 0] (.bool true)) [] (stX []) []:=by
 /-
 refine Comp.body (T:=tab) (res:=[.tmp 0]) za [] Tryz.func3 rfl (by kernel_rfl) Tryz.ntmps3 rfl (by simp only [List.length_cons,List.length_nil];decide) (by rfl) ?_;conv=>whnf
 -/
 refine Walk.step za [] ?_
 conv=>whnf
 repeat' ((with_reducible refine XGo.go za [] ?_);conv=>whnf)
 refine Walk.thenKeep ?_
 refine Walk.loopGKW [] trivial (fun n : Nat=>n <= 40) (fun n=>[(223,natA n)]) (fun _=>[]) (fun n=>40 - n) 0 (Nat.zero_le _) rfl ⟨rfl,trivial⟩ ?_ (fun _ _=>Nat.le_refl _) ?_
 ·intro n _
  refine ⟨fun z hz=>(by cases hz),fun z hz=>?_⟩
  simp only [List.cons_append,List.nil_append,List.mem_cons,List.not_mem_nil,or_false] at hz
  subst hz;rfl
 intro n hn
 have b2:=tmI (x:=n) (k:=2) (by omega) (by omega)
 have b3:=tmI (x:=n) (k:=3) (by omega) (by omega)
 have b4:=tmI (x:=n) (k:=4) (by omega) (by omega)
 have d2:=tdI (x:=n) (k:=2) (by omega) (by omega)
 refine Walk.step za [] ?_
 conv=>whnf
 by_cases hn40 : n < 40
 ·skip
  repeat' first|((with_reducible first|refine XBr.y fun h=>?_|refine XBr.n fun h=>?_|refine XBr.dec (fun h=>?_) fun h=>?_|refine XInt.a ?_) <;> conv=>whnf)|((first|refine zh.a ?_|(with_reducible refine XGo.go za [] ?_));conv=>whnf)|fail
  refine Walk.nilcell 0 4 40 rfl rfl ?_
  refine Walk.nilcell 0 5 22 rfl rfl ?_
  refine Walk.nilcell 0 6 46 rfl rfl ?_
  refine Walk.loopGKW [(13,_),(14,_),(223,_),(240,_)] ⟨rfl,rfl,rfl,rfl,trivial⟩ (fun g : Nat × List Wy=>(g.1 : Int) <= 1 + (n : Int).tmod 3 /\ WyOk (2 + (n : Int).tmod 3) ((g.1 : Int) + 1) g.2) (fun g=>[(241,natA g.1)]) (fun g=>[.cells [.int .i64 (2 + (n : Int).tmod 3),.int .i64 ((n : Int).tmod 2),.int .i64 (1 - (n : Int).tmod 2),.int .i64 (4 + (n : Int).tmod 4),.gr 1 g.2.length,.gr 2 0,.gr 3 0],.grow 40 g.2.isEmpty (g.2.map wyA),.grow 22 true [],.grow 46 true []]) (fun g=>(1 + (n : Int).tmod 3).toNat - g.1) (0,[]) ⟨by dsimp only;omega,WyOk.nil⟩ rfl ⟨rfl,trivial⟩ ?_ (fun _ _=>(show (4 : Nat) <= 4 from Nat.le_refl 4)) ?_
  ·intro g _
   refine ⟨fun z hz=>?_,fun z hz=>?_⟩
   ·simp only [List.mem_cons,List.not_mem_nil,or_false] at hz
    rcases hz with rfl | rfl | rfl | rfl
    ·rfl
    ·exact yB _
    ·rfl
    ·rfl
   ·simp only [List.cons_append,List.nil_append,List.mem_cons,List.not_mem_nil,or_false] at hz
    rcases hz with rfl | rfl | rfl | rfl | rfl <;> rfl
  rintro ⟨k,W⟩ ⟨hk,hW⟩
  dsimp only at hk hW ⊢
  have hWm : (W.map wyA).length = W.length:=List.length_map _
  have hWl:=hW.l
  have c2:=tmI (x:=(n : Int) + k) (k:=2) (by omega) (by omega)
  refine Walk.step za [] ?_
  conv=>whnf
  by_cases hlt : (k : Int) < 2 + (n : Int).tmod 3 - 1
  ·have hW1:=hW.one (m:=1 + ((n : Int) + k).tmod 2) (by omega) (by omega) (by omega)
   rw [Int.add_sub_cancel] at hW1
   repeat' first|((refine zh.mk ⟨rfl,hWm,by unfold Room;constructor <;> ((try simp) <;> omega)⟩ ?_);conv=>whnf)|((with_reducible first|refine XBr.y fun h=>?_|refine XBr.n fun h=>?_|refine XBr.dec (fun h=>?_) fun h=>?_|refine XInt.a ?_) <;> conv=>whnf)|((first|refine zh.a ?_|(with_reducible refine XGo.go za [] ?_));conv=>whnf)|fail
   refine zl.go (k + 1,W ++ [((k : Int),(k : Int) + 1,1 + ((n : Int) + k).tmod 2)]) [] ⟨by dsimp only;omega,hW1⟩ (by dsimp only;omega) ?_ ⟨rfl,rfl,rfl,rfl,rfl,trivial⟩
   dsimp only
   rw [List.length_append,zy,List.map_append];rfl
  have hkP : (k : Int) + 1 = 2 + (n : Int).tmod 3:=by omega
  rw [hkP] at hW hWl
  repeat' first|((with_reducible first|refine XBr.y fun h=>?_|refine XBr.n fun h=>?_|refine XBr.dec (fun h=>?_) fun h=>?_|refine XInt.a ?_) <;> conv=>whnf)|((first|refine zh.a ?_|(with_reducible refine XGo.go za [] ?_));conv=>whnf)|fail
  clear c2 hlt hk hkP
  refine Walk.thenKeep ?_
  refine Walk.loopGKW [(13,_),(14,_),(223,_),(261,_)] ⟨rfl,rfl,rfl,rfl,trivial⟩ (fun g : Nat × List Rw × List Tru=>(g.1 : Int) <= 1 + (n : Int).tmod 3 /\ (g.2.1.length = g.1 /\ g.2.2.length = g.1) /\ (∀ r ∈ g.2.1,(r.2.length : Int) = 2 + (n : Int).tmod 3 /\ ∀ n ∈ r.2,0 <= n /\ n <= 3) /\ ∀ t ∈ g.2.2,(t.2.length : Int) = 2 + (n : Int).tmod 3 /\ ∀ r ∈ t.2,spE (4 + (n : Int).tmod 4) none r.2 = 0 /\ r.2.length <= 2) (fun g=>[(262,natA g.1)]) (fun g=>[.cells [.int .i64 (2 + (n : Int).tmod 3),.int .i64 ((n : Int).tmod 2),.int .i64 (1 - (n : Int).tmod 2),.int .i64 (4 + (n : Int).tmod 4),.gr 1 W.length,.gr 2 g.2.1.length,.gr 3 g.2.2.length],.grow 40 W.isEmpty (W.map wyA),.grow 22 g.2.1.isEmpty (g.2.1.map rwA),.grow 46 g.2.2.isEmpty (g.2.2.map trA)]) (fun g=>(1 + (n : Int).tmod 3).toNat - g.1) (0,[],[]) ⟨by dsimp only;omega,⟨rfl,rfl⟩,by simp,by simp⟩ rfl ⟨rfl,trivial⟩ ?_ (fun _ _=>(show (4 : Nat) <= 4 from Nat.le_refl 4)) ?_
  ·intro g _
   refine ⟨fun z hz=>?_,fun z hz=>?_⟩
   ·simp only [List.mem_cons,List.not_mem_nil,or_false] at hz
    rcases hz with rfl | rfl | rfl | rfl
    ·rfl
    ·exact yB _
    ·exact yP _
    ·exact yO _
   ·simp only [List.cons_append,List.nil_append,List.mem_cons,List.not_mem_nil,or_false] at hz
    rcases hz with rfl | rfl | rfl | rfl | rfl <;> rfl
  rintro ⟨i,looks,truths⟩ ⟨hi,⟨hll,htl⟩,hlk,htr⟩
  dsimp only at hi hll htl hlk htr ⊢
  have hlm : (looks.map rwA).length = looks.length:=List.length_map _
  have htm : (truths.map trA).length = truths.length:=List.length_map _
  refine Walk.step za [] ?_
  conv=>whnf
  by_cases hit : (i : Int) < 1 + (n : Int).tmod 3
  ·skip
   repeat' first|((with_reducible first|refine XBr.y fun h=>?_|refine XBr.n fun h=>?_|refine XBr.dec (fun h=>?_) fun h=>?_) <;> conv=>whnf)|((with_reducible refine XGo.go za [] ?_);conv=>whnf)|fail
   refine Walk.nilgr 17 3 rfl ?_
   refine Walk.nilcell 4 0 43 rfl rfl ?_
   refine Walk.loopGKW [(13,_),(14,_),(16,_),(18,_),(223,_),(261,_),(262,_),(266,_)] ⟨rfl,rfl,rfl,rfl,rfl,rfl,rfl,rfl,trivial⟩ (fun g : Nat × List Int × List Sps=>(g.1 : Int) <= 2 + (n : Int).tmod 3 /\ (g.2.1.length = g.1 /\ g.2.2.length = g.1) /\ (∀ n ∈ g.2.1,0 <= n /\ n <= 3) /\ ∀ r ∈ g.2.2,spE (4 + (n : Int).tmod 4) none r.2 = 0 /\ r.2.length <= 2) (fun g=>[(17,.gr 5 g.2.1.length),(267,natA g.1)]) (fun g=>[.cells [.int .i64 (2 + (n : Int).tmod 3),.int .i64 ((n : Int).tmod 2),.int .i64 (1 - (n : Int).tmod 2),.int .i64 (4 + (n : Int).tmod 4),.gr 1 W.length,.gr 2 looks.length,.gr 3 truths.length],.grow 40 W.isEmpty (W.map wyA),.grow 22 looks.isEmpty (looks.map rwA),.grow 46 truths.isEmpty (truths.map trA),.cells [.gr 6 g.2.2.length],.grow 3 g.2.1.isEmpty (ints g.2.1),.grow 43 g.2.2.isEmpty (g.2.2.map spsA)]) (fun g=>(2 + (n : Int).tmod 3).toNat - g.1) (0,[],[]) ⟨by dsimp only;omega,⟨rfl,rfl⟩,by simp,by simp⟩ rfl ⟨rfl,rfl,trivial⟩ ?_ (fun _ _=>(show (7 : Nat) <= 7 from Nat.le_refl 7)) ?_
   ·intro g _
    refine ⟨fun z hz=>?_,fun z hz=>?_⟩
    ·simp only [List.mem_cons,List.not_mem_nil,or_false] at hz
     rcases hz with rfl | rfl | rfl | rfl | rfl | rfl | rfl
     ·rfl
     ·exact yB _
     ·exact yP _
     ·exact yO _
     ·rfl
     ·exact lowI _
     ·exact y9 _
    ·simp only [List.cons_append,List.nil_append,List.mem_cons,List.not_mem_nil,or_false] at hz
     rcases hz with rfl | rfl | rfl | rfl | rfl | rfl | rfl | rfl | rfl | rfl <;> rfl
   rintro ⟨q,row,dry⟩ ⟨hq,⟨hrl,hdl⟩,hrow,hdry⟩
   dsimp only at hq hrl hdl hrow hdry ⊢
   have hrm : (ints row).length = row.length:=zK _
   have hdm : (dry.map spsA).length = dry.length:=List.length_map _
   have e1:=tdI (x:=n) (k:=(i : Int) + q + 1) (by omega) (by omega)
   have e2:=tmI (x:=(n : Int).tdiv ((i : Int) + q + 1)) (k:=2) e1.1 (by omega)
   have e3:=tmI (x:=(n : Int) + q) (k:=2) (by omega) (by omega)
   have e4:=tmI (x:=(n : Int).tdiv 2 + i + q) (k:=3) (by omega) (by omega)
   have e5:=tmI (x:=(n : Int) + i) (k:=5) (by omega) (by omega)
   refine Walk.step za [] ?_
   conv=>whnf
   by_cases hqP : (q : Int) < 2 + (n : Int).tmod 3
   ·have hrow' : ∀ z ∈ row ++ [((n : Int).tdiv ((i : Int) + q + 1)).tmod 2],0 <= z /\ z <= 3:=fun z hz=>by
     rcases List.mem_append.1 hz with hz | hz
     ·exact hrow z hz
     ·rw [List.mem_singleton] at hz;rw [hz];omega
    have hstep : ∀ r : Sps,spE (4 + (n : Int).tmod 4) none r.2 = 0 -> r.2.length <= 2 -> ((q + 1 : Nat) : Int) <= 2 + (n : Int).tmod 3 /\ ((row ++ [((n : Int).tdiv ((i : Int) + q + 1)).tmod 2]).length = q + 1 /\ (dry ++ [r]).length = q + 1) /\ (∀ z ∈ row ++ [((n : Int).tdiv ((i : Int) + q + 1)).tmod 2],0 <= z /\ z <= 3) /\ ∀ r' ∈ dry ++ [r],spE (4 + (n : Int).tmod 4) none r'.2 = 0 /\ r'.2.length <= 2:=fun r h1 h2=>⟨by omega,⟨by rw [List.length_append,hrl];rfl,by rw [List.length_append,hdl];rfl⟩,hrow',fun r' hr'=>by
     rcases List.mem_append.1 hr' with hr' | hr'
     ·exact hdry r' hr'
     ·rw [List.mem_singleton] at hr';rw [hr'];exact ⟨h1,h2⟩⟩
    repeat' first|((first|(refine zh.mk ⟨rfl,hrm,by unfold Room;constructor <;> ((try simp) <;> omega)⟩ ?_)|(refine zh.mk ⟨rfl,hdm,by unfold Room;constructor <;> ((try simp) <;> omega)⟩ ?_));conv=>whnf)|((with_reducible first|apply XBr.tt|apply XBr.ff|refine XBr.y fun h=>?_|refine XBr.n fun h=>?_|refine XBr.dec (fun h=>?_) fun h=>?_|refine XBr.y1 fun h=>?_|refine XBr.n1 fun h=>?_|refine XBr.beq (fun h=>?_) fun h=>?_|refine XInt.a ?_|apply Chk.go|apply ChkA.go|apply ChkF.go|apply ChkB.go|apply zq.mk) <;> conv=>whnf)|(refine zh.a ?_;conv=>whnf)|(with_reducible first|apply XAnd.mk|exact trivial)|(exact zg.mk rfl rfl)|(apply Walk.drawN (id:=36) za zd [] [] (hsU _) [_,_,_,_,_,_,_,_,_,_,_,_,_,_,_,_] (by kernel_rfl) rfl)|((with_reducible refine XGo.go za [] ?_);conv=>whnf)|fail
    ·refine zl.go (q + 1,row ++ [((n : Int).tdiv ((i : Int) + q + 1)).tmod 2],dry ++ [((false,[((n + q : Int).tmod 2,(n + q : Int).tmod 2),((n + q : Int).tmod 2 + 2,4 + (n : Int).tmod 4 - ((n : Int).tdiv 2 + i + q).tmod 3)]) : Sps)]) [] (hstep _ (by exact sp_gap (by omega) (by omega) (by omega)) (by simp)) (by dsimp only;omega) ?_ ⟨rfl,rfl,rfl,rfl,rfl,rfl,rfl,rfl,(by rw [List.length_append];rfl),rfl,trivial⟩
     dsimp only
     rw [List.length_append,zy,zy,List.map_append,zbE];rfl
    ·refine zl.go (q + 1,row ++ [((n : Int).tdiv ((i : Int) + q + 1)).tmod 2],dry ++ [((false,[((n + q : Int).tmod 2,4 + (n : Int).tmod 4 - ((n : Int).tdiv 2 + i + q).tmod 3)]) : Sps)]) [] (hstep _ (by exact sp_one (by omega) (by omega) (by omega)) (by simp)) (by dsimp only;omega) ?_ ⟨rfl,rfl,rfl,rfl,rfl,rfl,rfl,rfl,(by rw [List.length_append];rfl),rfl,trivial⟩
     dsimp only
     rw [List.length_append,zy,zy,List.map_append,zbE];rfl
    ·refine zl.go (q + 1,row ++ [((n : Int).tdiv ((i : Int) + q + 1)).tmod 2],dry ++ [((false,[((n + q : Int).tmod 2,4 + (n : Int).tmod 4 - ((n : Int).tdiv 2 + i + q).tmod 3)]) : Sps)]) [] (hstep _ (by exact sp_one (by omega) (by omega) (by omega)) (by simp)) (by dsimp only;omega) ?_ ⟨rfl,rfl,rfl,rfl,rfl,rfl,rfl,rfl,(by rw [List.length_append];rfl),rfl,trivial⟩
     dsimp only
     rw [List.length_append,zy,zy,List.map_append,zbE];rfl
   have hqe : (q : Int) = 2 + (n : Int).tmod 3:=by omega
   repeat' first|((with_reducible first|refine XBr.y fun h=>?_|refine XBr.n fun h=>?_|refine XBr.dec (fun h=>?_) fun h=>?_) <;> conv=>whnf)|((with_reducible refine XGo.go za [] ?_);conv=>whnf)|fail
   refine Walk.freeze 17 5 row.length rfl rfl hrm ?_
   refine Walk.freezeCell 4 0 6 dry.length rfl rfl rfl hdm ?_
   clear e1 e2 e3 e4 e5
   apply Walk.drawX za zd [] [4,9,11,13] (hsC [_,_,_,_,_]) [_,_,_,_,_,_,_,_,_,_,_,_,_,_] (zbQ (by kernel_rfl)) rfl
   ·skip
    repeat' first|((first|(refine zh.mk ⟨rfl,hlm,by unfold Room;constructor <;> ((try simp) <;> omega)⟩ ?_)|(refine zh.mk ⟨rfl,htm,by unfold Room;constructor <;> ((try simp) <;> omega)⟩ ?_));conv=>whnf)|((with_reducible first|apply Chk.go|apply ChkA.go);conv=>whnf)|(refine zh.a ?_;conv=>whnf)|(with_reducible first|apply XAnd.mk|exact trivial)|(exact zg.mk rfl rfl)|fail
   ·skip
    repeat' first|((with_reducible first|apply Chk.go|apply ChkF.go|apply ChkB.go);conv=>whnf)|(refine zh.a ?_;conv=>whnf)|(with_reducible first|apply XAnd.mk|exact trivial)|(exact zg.mk rfl rfl)|fail
   conv=>whnf
   repeat' first|((first|(with_reducible refine XInt.a ?_)|(with_reducible refine XGo.go za [] ?_));conv=>whnf)|fail
   refine zl.go (i + 1,looks ++ [((row.isEmpty,row) : Rw)],truths ++ [((dry.isEmpty,dry) : Tru)]) [.cells [.sl dry.isEmpty (dry.map spsA)],.dead,.dead] ⟨by dsimp only;omega,⟨by dsimp only;rw [List.length_append,hll];rfl,by dsimp only;rw [List.length_append,htl];rfl⟩,fun r hr=>?_,fun t ht=>?_⟩ (by dsimp only;omega) ?_ ⟨rfl,rfl,rfl,rfl,rfl,trivial⟩
   ·rcases List.mem_append.1 hr with hr | hr
    ·exact hlk r hr
    ·rw [List.mem_singleton] at hr;rw [hr];exact ⟨by dsimp only;omega,hrow⟩
   ·rcases List.mem_append.1 ht with ht | ht
    ·exact htr t ht
    ·rw [List.mem_singleton] at ht;rw [ht];exact ⟨by dsimp only;omega,hdry⟩
   dsimp only
   rw [List.length_append,List.length_append,zy,zy,List.map_append,List.map_append];rfl
  have hie : (i : Int) = 1 + (n : Int).tmod 3:=by omega
  obtain ⟨ok,hb⟩:=mk40_ok (P:=2 + (n : Int).tmod 3) (h:=(n : Int).tmod 2) (bd:=1 - (n : Int).tmod 2) (last:=4 + (n : Int).tmod 4) (nw:=W.isEmpty) (nk:=looks.isEmpty) (nt:=truths.isEmpty) (by omega) (by omega) (by omega) (by omega) (by omega) hW hlk htr (by omega) (by omega) (by omega)
  have hts : (truths.map trA).length = i:=htm.trans htl
  have hi1 : 1 <= i:=by omega
  have hi3 : i <= 3:=by omega
  repeat' first|((with_reducible first|refine XBr.y fun h=>?_|refine XBr.n fun h=>?_|refine XBr.dec (fun h=>?_) fun h=>?_) <;> conv=>whnf)|((with_reducible refine XGo.go za [] ?_);conv=>whnf)|fail
  obtain ⟨s,hs⟩ : ∃ s : Sn,s = ⟨2 + (n : Int).tmod 3,(n : Int).tmod 2,1 - (n : Int).tmod 2,4 + (n : Int).tmod 4,W.isEmpty,W,looks.isEmpty,looks,truths.isEmpty,truths⟩:=⟨_,rfl⟩
  rw [<- hs] at ok hb
  refine vE.go [] _ [(13,natA n),(14,.pim (snC s)),(223,natA n)] rfl (fun x hx=>by cases hx) ⟨⟨_,rfl,.same rfl⟩,⟨_,rfl,.all (by rw [hs];exact Froz.ptr rfl (by intro v hv;simp only [snC,List.mem_cons,List.not_mem_nil,or_false] at hv;rcases hv with rfl | rfl | rfl | rfl | rfl | rfl | rfl <;> rfl) (.cons (.low rfl) (.cons (.low rfl) (.cons (.low rfl) (.cons (.low rfl) (.cons (Froz.grow rfl hWm (yB _)) (.cons (Froz.grow rfl hlm (yP _)) (.cons (Froz.grow rfl htm (yO _)) .nil))))))))⟩,⟨_,rfl,.same rfl⟩,trivial⟩ ?_
  refine jN ?_
  have r1 : s.places = 2 + (n : Int).tmod 3:=by rw [hs]
  have r2 : s.last = 4 + (n : Int).tmod 4:=by rw [hs]
  have r3 : (s.truths.map trA).length = i:=by rw [hs];exact hts
  clear hs hWm hlm htm hW hWl hlk htr hll htl hts hit
  refine XGo.mk ?_
  refine Walk.heapX [.dead,.dead,.dead,.dead] rfl ?_
  refine Walk.step za [] ?_
  conv=>whnf
  have sh:=sh3 (((s.truths.map trA).length : Nat) : Int) (by omega) (by omega)
  have b7:=tmI (x:=n) (k:=(1 : Int) * 2 ^ (min (((s.truths.map trA).length : Nat) : Int).toNat IntKind.i64.bits) - 1) (by omega) (by omega)
  have bp:=tmI (x:=n) (k:=s.places) (by omega) (by omega)
  repeat' first|((with_reducible first|refine XInt.a ?_|apply Chk.go|apply ChkA.go|apply ChkF.go|apply ChkB.go|apply zq.mk);conv=>whnf)|(refine zh.a ?_;conv=>whnf)|(with_reducible first|apply XAnd.mk|exact trivial)|(exact zg.mk rfl rfl)|(apply Walk.drawN (id:=44) za zd [] [15,16] (hsC [_,_,_]) [_,_,_,_,_,_,_,_,_,_,_,_,_,_,_,_,_] (by kernel_rfl) rfl)|((with_reducible refine XGo.go za [] ?_);conv=>whnf)|fail
  obtain ⟨t,e,ht,hru⟩:=fRule_e s hb ((n : Int).tmod s.places) ((n : Int).tmod 4) (1 + (n : Int).tmod ((1 : Int) * 2 ^ (min (((s.truths.map trA).length : Nat) : Int).toNat IntKind.i64.bits) - 1))
  repeat' first|((first|(refine zb.ret hru ?_)|(with_reducible refine XGo.go za [] ?_));conv=>whnf)|fail
  refine zb.fMade hb ok 6 rfl rfl ?_
  intro T hT
  conv=>whnf
  repeat' ((with_reducible refine XGo.go za [] ?_);conv=>whnf)
  have hal : 1 <= allN s:=by
   unfold allN
   have:=Nat.pow_le_pow_right (show 0 < 2 by decide) ok.t1
   omega
  have hge:=yQ s ⟨0,2,1⟩
  have hle:=vv s ⟨0,2,1⟩ (by show (2 : Int) <= _;omega)
  obtain ⟨tb,rb,cb,⟨t0,tl,tg⟩,⟨u0,ul,ug⟩,⟨c0,cl,cg⟩,hTl,hTs⟩:=tab40 (by omega) (by omega) (by omega) hT
  dsimp only at hle cg
  generalize zi s ⟨0,2,1⟩ = w at hge hle cg
  obtain ⟨T',hT'⟩ : ∃ T',T' = memS 6 (s.last.toNat + 1) (allN s + 1) s.places.toNat (upd3 (fun p m l=>zi s ⟨p,m,l⟩) 0 2 1 (w + ((n : Int).tmod 3 - 1))):=⟨_,rfl⟩
  have hTs':=(hTs (w + ((n : Int).tmod 3 - 1))).trans hT'.symm
  clear hTs
  refine Walk.norm za [] [(13,_),(14,_),(23,_),(24,_),(26,_),(223,_)] ⟨rfl,rfl,rfl,rfl,rfl,rfl,trivial⟩ ?_
  conv=>whnf
  repeat' first|(erw [t0];conv=>whnf)|(erw [u0];conv=>whnf)|(erw [c0];conv=>whnf)|((first|refine zh.mk tl ?_|refine zh.mk ul ?_|refine zh.mk cl ?_|refine zh.mk ⟨tl,rfl,by omega,by omega⟩ ?_|refine zh.mk ⟨ul,rfl,by omega,by omega⟩ ?_|refine zh.mk ⟨cl,rfl,by omega,by omega⟩ ?_|refine XGet.to _ tl.symm (by omega) tg ?_|refine XGet.to _ ul.symm (by omega) ug ?_|(refine XGet.to _ cl.symm (by show 1 < _;omega) cg ?_)|(refine XPut.to (cb.set 1 _) cl.symm (by show 1 < _;omega) rfl ?_)|refine yu (H:=T) T' hTl hTs' ?_|refine zb.askF F s ((n : Int).tmod s.places) ((n : Int).tmod 4) _ t ((n : Int).tmod s.places,1) ht (show -9223372036854775808 <= (1 : Int) /\ (1 : Int) <= 9223372036854775807 by decide) (pre:=[_,_,_,_,_,_]) rfl rfl rfl hT ?_|refine zb.askF F s ((n : Int).tmod s.places) ((n : Int).tmod 4) _ t ((n : Int).tmod s.places,1) ht (show -9223372036854775808 <= (1 : Int) /\ (1 : Int) <= 9223372036854775807 by decide) (pre:=[_,_,_,_,_,_]) rfl rfl rfl hT' ?_);conv=>whnf)|((with_reducible first|apply XBr.tt|refine XBr.y fun h=>?_|refine XBr.n fun h=>?_|refine XBr.dec (fun h=>?_) fun h=>?_|refine XBr.y1 fun h=>?_|refine XBr.n1 fun h=>?_|refine XBr.beq (fun h=>?_) fun h=>?_|refine XInt.a ?_) <;> conv=>whnf) | with_reducible apply XBr.not|((first|refine zh.a ?_|(with_reducible refine XGo.go za [] ?_));conv=>whnf)|fail
  all_goals try exact zl.go (n + 1) _ (by omega) (by omega) rfl ⟨rfl,trivial⟩
 ·obtain rfl : n = 40:=by omega
  repeat' first|((with_reducible first|refine XBr.y fun h=>?_|refine XBr.n fun h=>?_|refine XBr.dec (fun h=>?_) fun h=>?_) <;> conv=>whnf)|((with_reducible refine XGo.go za [] ?_);conv=>whnf)|fail
  refine vE.go [] _ [] rfl (fun x hx=>by cases hx) trivial ?_
  refine jN ?_
  exact XGo.at [] trivial hR
end GA
end
section
namespace GA
open Go Go.RowKit Go.Proofs
def plS (n : Nat) : Sn:=⟨n,0,1,3,true,[],false,[(false,List.replicate n 0)],false,[(false,List.replicate n (true,[]))]⟩
def lkK (k : Nat) : List Rw:=List.replicate k (false,[0,1,2])
def tuK (k : Nat) : List Tru:=List.replicate k (false,List.replicate 3 (true,[]))
def trK (k : Nat) : Sn:=⟨3,0,2,12,false,zQ.ways,(lkK k).isEmpty,lkK k,(tuK k).isEmpty,tuK k⟩
def gm : List Wy:=[(0,1,1),(0,2,1),(0,3,1),(0,4,1),(1,2,1),(1,3,1),(1,4,1),(2,3,1),(2,4,1),(3,4,1),(0,1,1),(1,2,1),(2,0,1)]
def wyS (n : Nat) : Sn:=⟨5,0,2,3,(gm.take n).isEmpty,gm.take n,false,[(false,List.replicate 5 0)],false,[(false,List.replicate 5 (true,[]))]⟩
theorem plS_E : ∀ n,n < 13 -> (snE (plS n) = 0 ↔ 1 < n /\ n < 6):=by decide +kernel
theorem trK_E : ∀ k,k < 7 -> (snE (trK k) = 0 ↔ 0 < k /\ k < 5):=by decide +kernel
theorem wyS_E : ∀ n,n < 13 -> (snE (wyS n) = 0 ↔ n < 11):=by decide +kernel
theorem lkK_succ (k : Nat) : lkK (k + 1) = lkK k ++ [(false,[0,1,2])]:=List.replicate_succ'
theorem tuK_succ (k : Nat) : tuK (k + 1) = tuK k ++ [(false,List.replicate 3 (true,[]))]:=List.replicate_succ'
def wyA1 : List Int:=[0,0,0,0,1,1,1,2,2,3,0,1,2]
def wyA2 : List Int:=[1,2,3,4,2,3,4,3,4,4,1,2,0]
theorem zdx : ∀ j,j < 13 -> gm.take (j + 1) = gm.take j ++ [(wyA1.getD j default,wyA2.getD j default,1)]:=by decide
theorem sh_le (b : Int) (q : Nat) (h0 : 0 <= b) (h : b <= 6) : 1 <= (1 : Int) * 2 ^ (min b.toNat q) /\ (1 : Int) * 2 ^ (min b.toNat q) <= 64:=by
 obtain ⟨e,he,h6⟩ : ∃ e,min b.toNat q = e /\ e <= 6:=⟨_,rfl,by omega⟩
 rw [he]
 have : e = 0 \/ e = 1 \/ e = 2 \/ e = 3 \/ e = 4 \/ e = 5 \/ e = 6:=by omega
 rcases this with rfl | rfl | rfl | rfl | rfl | rfl | rfl <;> decide
theorem bneD {p q : Prop} [Decidable p] [Decidable q] (h : (decide p != decide q) = true) (hpq : p ↔ q) : False:=by
 rw [bne_iff_ne] at h
 exact h (decide_eq_decide.2 hpq)
theorem bneF {p : Prop} [Decidable p] (h : (decide p != false) = true) (hp : ¬ p) : False:=by
 rw [bne_iff_ne] at h
 exact h (decide_eq_false hp)
theorem plS_B (n : Nat) (h : n < 13) : SnB (plS n) where
 w:=by show 0 <= 1000;decide
 k:=by show 1 <= 1000;decide
 t:=by show 1 <= 1000;decide
 kl r hr:=by obtain rfl:=List.mem_singleton.1 hr;show (List.replicate n (0 : Int)).length <= 1000;rw [List.length_replicate];omega
 tl t ht:=by obtain rfl:=List.mem_singleton.1 ht;show (List.replicate n ((true,[]) : Sps)).length <= 1000;rw [List.length_replicate];omega
 sl t ht r hr:=by obtain rfl:=List.mem_singleton.1 ht;rw [List.eq_of_mem_replicate hr];decide
theorem trK_B (k : Nat) (h : k < 7) : SnB (trK k) where
 w:=by show 2 <= 1000;decide
 k:=by show (lkK k).length <= 1000;rw [lkK,List.length_replicate];omega
 t:=by show (tuK k).length <= 1000;rw [tuK,List.length_replicate];omega
 kl r hr:=by rw [List.eq_of_mem_replicate hr];decide
 tl t ht:=by rw [List.eq_of_mem_replicate ht];decide
 sl t ht r hr:=by rw [List.eq_of_mem_replicate ht] at hr;rw [List.eq_of_mem_replicate hr];decide
theorem wyS_B (n : Nat) (h : n < 13) : SnB (wyS n) where
 w:=by show (gm.take n).length <= 1000;rw [List.length_take];show min n 13 <= 1000;omega
 k:=by show 1 <= 1000;decide
 t:=by show 1 <= 1000;decide
 kl r hr:=by obtain rfl:=List.mem_singleton.1 hr;decide
 tl t ht:=by obtain rfl:=List.mem_singleton.1 ht;decide
 sl t ht r hr:=by obtain rfl:=List.mem_singleton.1 ht;rw [List.eq_of_mem_replicate hr];decide
set_option maxHeartbeats 4000000 in
theorem fsMany (F : jg) : Walk Tryz.prog 544 none (vD 4 (theC Tryz.f3.body)) (XFn Tryz.prog tab [.tmp 0] (.bool true)) [] (stX []) []:=by
 /-
 refine Comp.body (T:=tab) (res:=[.tmp 0]) za [] Tryz.func3 rfl (by kernel_rfl) Tryz.ntmps3 rfl (by simp only [List.length_cons,List.length_nil];decide) (by rfl) ?_;conv=>whnf
 -/
 have t3:=three_c
 refine Walk.step za [] ?_
 conv=>whnf
 repeat' ((with_reducible refine XGo.go za [] ?_);conv=>whnf)
 refine Walk.thenKeep ?_
 refine Walk.loopGKW [] trivial (fun n : Nat=>n <= 13) (fun n=>[(411,natA n)]) (fun _=>[]) (fun n=>13 - n) 0 (Nat.zero_le _) rfl ⟨rfl,trivial⟩ ?_ (fun _ _=>Nat.le_refl _) ?_
 ·intro n _
  refine ⟨fun z hz=>(by cases hz),fun z hz=>?_⟩
  simp only [List.cons_append,List.nil_append,List.mem_cons,List.not_mem_nil,or_false] at hz
  subst hz;rfl
 intro n hn
 refine Walk.step za [] ?_
 conv=>whnf
 by_cases hn13 : n < 13
 ·skip
  repeat' first|((with_reducible first|refine XBr.y fun h=>?_|refine XBr.n fun h=>?_|refine XBr.dec (fun h=>?_) fun h=>?_) <;> conv=>whnf)|((with_reducible refine XGo.go za [] ?_);conv=>whnf)|fail
  iterate 5 refine Walk.place ?_
  apply Walk.drawX za zd [] [2,5,11,12,13,14,15,16] (fun fl=>match fl with
   | [a,b,c,d,e,f,g,h]=>[(bif a then .grow 3 false (List.replicate (n : Int).toNat (.int .i64 0)) else .free),(bif b then .grow 43 false (List.replicate (n : Int).toNat (.sl true [])) else .free),(bif c then (bif f then .cells [natA n,.int .i64 0,.int .i64 1,.int .i64 3,.sl true [],.sl false [.gr 0 (n : Int).toNat],.sl false [.agg [.gr 1 (n : Int).toNat]]] else .cells [.int .i64 0,.int .i64 0,.int .i64 0,.int .i64 0,.sl true [],.sl true [],.sl true []]) else .free),(bif d then (bif g then .cells (snC zQ) else .cells [.int .i64 0,.int .i64 0,.int .i64 0,.int .i64 0,.sl true [],.sl true [],.sl true []]) else .free),(bif e then (bif h then .cells (snC zQ) else .cells [.int .i64 0,.int .i64 0,.int .i64 0,.int .i64 0,.sl true [],.sl true [],.sl true []]) else .free)]
   | _=>[]) [_,_,.gr 0 (n : Int).toNat,.sl false [.gr 0 (n : Int).toNat],_,.gr 1 (n : Int).toNat,.agg [.gr 1 (n : Int).toNat],.sl false [.agg [.gr 1 (n : Int).toNat]],_,_,_,.ptr 2 0,.ptr 3 0,.ptr 4 0,_,_,_] (zbQ (by kernel_rfl)) rfl
  ·skip
   repeat' first|((refine zb.ret t3 ?_);conv=>whnf)|(first|((refine zt.at 0 rfl ?_);(conv=>whnf);exact zg.mk rfl rfl)|((refine zt.at 1 rfl ?_);(conv=>whnf);exact zg.mk rfl rfl)|((refine zt.at 2 rfl ?_);(conv=>whnf);exact zg.mk rfl rfl)|((refine zt.at 3 rfl ?_);(conv=>whnf);exact zg.mk rfl rfl)|((refine zt.at 4 rfl ?_);(conv=>whnf);exact zg.mk rfl rfl))|((with_reducible first|apply Chk.go|apply ChkA.go);conv=>whnf)|(refine zh.a ?_;conv=>whnf)|(with_reducible first|apply XAnd.mk|exact trivial)|(exact zg.mk rfl rfl)|fail
  ·skip
   repeat' first|((refine zb.ret t3 ?_);conv=>whnf)|(first|((refine zt.at 0 rfl ?_);(conv=>whnf);exact zg.mk rfl rfl)|((refine zt.at 1 rfl ?_);(conv=>whnf);exact zg.mk rfl rfl)|((refine zt.at 2 rfl ?_);(conv=>whnf);exact zg.mk rfl rfl)|((refine zt.at 3 rfl ?_);(conv=>whnf);exact zg.mk rfl rfl)|((refine zt.at 4 rfl ?_);(conv=>whnf);exact zg.mk rfl rfl))|((with_reducible first|apply Chk.go|apply ChkF.go|apply ChkB.go);conv=>whnf)|(refine zh.a ?_;conv=>whnf)|(with_reducible first|apply XAnd.mk|exact trivial)|(exact zg.mk rfl rfl)|fail
  conv=>whnf
  repeat' ((with_reducible refine XGo.go za [] ?_);conv=>whnf)
  refine Walk.nilcell 3 5 22 rfl rfl ?_
  refine Walk.nilcell 3 6 46 rfl rfl ?_
  refine Walk.loopGKW [(28,_),(29,_),(30,_),(31,_),(411,_),(429,_)] ⟨rfl,rfl,rfl,rfl,rfl,rfl,trivial⟩ (fun k : Nat=>(k : Int) <= min (n : Int) 6) (fun k=>[(430,natA k)]) (fun k=>[.grow 3 false (List.replicate (n : Int).toNat (.int .i64 0)),.grow 43 false (List.replicate (n : Int).toNat (.sl true [])),.cells [natA n,.int .i64 0,.int .i64 1,.int .i64 3,.sl true [],.sl false [.gr 0 (n : Int).toNat],.sl false [.agg [.gr 1 (n : Int).toNat]]],.cells [.int .i64 3,.int .i64 0,.int .i64 2,.int .i64 12,.sl false (zQ.ways.map wyA),.gr 5 k,.gr 6 k],.cells [.int .i64 3,.int .i64 0,.int .i64 2,.int .i64 3,.sl false (zQ.ways.map wyA),.sl false (zQ.looks.map rwA),.sl false (zQ.truths.map trA)],.grow 22 (lkK k).isEmpty ((lkK k).map rwA),.grow 46 (tuK k).isEmpty ((tuK k).map trA)]) (fun k=>(min (n : Int) 6).toNat - k) 0 (by omega) rfl ⟨rfl,trivial⟩ ?_ (fun _ _=>(show (7 : Nat) <= 7 from Nat.le_refl 7)) ?_
  ·intro k _
   refine ⟨fun z hz=>?_,fun z hz=>?_⟩
   ·simp only [List.mem_cons,List.not_mem_nil,or_false] at hz
    rcases hz with rfl | rfl | rfl | rfl | rfl | rfl | rfl
    ·exact zw.2 fun x hx=>by rw [List.eq_of_mem_replicate hx];rfl
    ·exact zw.2 fun x hx=>by rw [List.eq_of_mem_replicate hx];rfl
    ·rfl
    ·rfl
    ·rfl
    ·exact yP _
    ·exact yO _
   ·simp only [List.cons_append,List.nil_append,List.mem_cons,List.not_mem_nil,or_false] at hz
    rcases hz with rfl | rfl | rfl | rfl | rfl | rfl | rfl <;> rfl
  intro k hk
  refine Walk.step za [] ?_
  conv=>whnf
  have hl1 : ((lkK k).map rwA).length = k:=by rw [List.length_map,lkK,List.length_replicate]
  have hl2 : ((tuK k).map trA).length = k:=by rw [List.length_map,tuK,List.length_replicate]
  by_cases hkl : (k : Int) < min (n : Int) 6
  ·skip
   repeat' first|((with_reducible first|refine XBr.y fun h=>?_|refine XBr.n fun h=>?_|refine XBr.dec (fun h=>?_) fun h=>?_) <;> conv=>whnf)|((with_reducible refine XGo.go za [] ?_);conv=>whnf)|fail
   refine Walk.place ?_
   apply Walk.drawX za zd [] [4,7,10,12,14] (fun fl=>match fl with
    | [a,b,c,d,e]=>[.grow 3 false (List.replicate (n : Int).toNat (.int .i64 0)),.grow 43 false (List.replicate (n : Int).toNat (.sl true [])),.cells [natA n,.int .i64 0,.int .i64 1,.int .i64 3,.sl true [],.sl false [.gr 0 (n : Int).toNat],.sl false [.agg [.gr 1 (n : Int).toNat]]],.cells [.int .i64 3,.int .i64 0,.int .i64 2,.int .i64 12,.sl false (zQ.ways.map wyA),.gr 5 (bif d then k + 1 else k),.gr 6 (bif e then k + 1 else k)],.cells [.int .i64 3,.int .i64 0,.int .i64 2,.int .i64 3,.sl false (zQ.ways.map wyA),.sl false (zQ.looks.map rwA),.sl false (zQ.truths.map trA)],.grow 22 (bif a then (lkK k).isEmpty && false else (lkK k).isEmpty) (bif a then (lkK k).map rwA ++ [.sl false (ints [0,1,2])] else (lkK k).map rwA),.grow 46 (bif c then (tuK k).isEmpty && false else (tuK k).isEmpty) (bif c then (tuK k).map trA ++ [.agg [.gr 7 3]] else (tuK k).map trA),(bif b then .grow 43 false (List.replicate 3 (.sl true [])) else .free)]
    | _=>[]) [_,.gr 5 k,_,_,.gr 5 (k + 1),_,.gr 6 k,.gr 7 3,.agg [.gr 7 3],.sl false [.agg [.gr 7 3]],.gr 6 (k + 1),_,_,_,_] (zbQ (by kernel_rfl)) rfl
   ·skip
    repeat' first|((first|(refine zh.mk ⟨rfl,hl1,by unfold Room;constructor <;> ((try simp) <;> omega)⟩ ?_)|(refine zh.mk ⟨rfl,hl2,by unfold Room;constructor <;> ((try simp) <;> omega)⟩ ?_));conv=>whnf)|((refine zt.at 7 rfl ?_);(conv=>whnf);exact zg.mk rfl rfl)|((with_reducible first|apply Chk.go|apply ChkA.go);conv=>whnf)|(refine zh.a ?_;conv=>whnf)|(with_reducible first|apply XAnd.mk|exact trivial)|(exact zg.mk rfl rfl)|fail
   ·skip
    repeat' first|((first|(refine zh.mk ⟨rfl,hl1,by unfold Room;constructor <;> ((try simp) <;> omega)⟩ ?_)|(refine zh.mk ⟨rfl,hl2,by unfold Room;constructor <;> ((try simp) <;> omega)⟩ ?_));conv=>whnf)|((refine zt.at 7 rfl ?_);(conv=>whnf);exact zg.mk rfl rfl)|((with_reducible first|apply Chk.go|apply ChkF.go|apply ChkB.go);conv=>whnf)|(refine zh.a ?_;conv=>whnf)|(with_reducible first|apply XAnd.mk|exact trivial)|(exact zg.mk rfl rfl)|fail
   refine XGo.mk ?_
   refine Walk.freezeLast 6 7 3 (A:=(tuK k).map trA) rfl (fun y hy=>by obtain ⟨t,_,rfl⟩:=List.mem_map.1 hy;exact ⟨_,rfl,rfl⟩) rfl (by decide) rfl ?_
   refine Walk.step za [] ?_
   conv=>whnf
   repeat' ((with_reducible refine XInt.a ?_);conv=>whnf)
   refine zl.go (k + 1) [.dead] (by omega) (by omega) ?_ ⟨rfl,rfl,rfl,rfl,rfl,rfl,rfl,trivial⟩
   rw [lkK_succ,tuK_succ,zy,zy,List.map_append,List.map_append];rfl
  have hk6 : (k : Int) = min (n : Int) 6:=by omega
  repeat' first|((with_reducible first|refine XBr.y fun h=>?_|refine XBr.n fun h=>?_|refine XBr.dec (fun h=>?_) fun h=>?_) <;> conv=>whnf)|((with_reducible refine XGo.go za [] ?_);conv=>whnf)|fail
  refine Walk.place (Walk.place ?_)
  apply Walk.drawX za zd [] [0,2,6,8,10,12] (fun fl=>match fl with
   | [a,b,c,d,e,f]=>[.grow 3 false (List.replicate (n : Int).toNat (.int .i64 0)),.grow 43 false (List.replicate (n : Int).toNat (.sl true [])),.cells [natA n,.int .i64 0,.int .i64 1,.int .i64 3,.sl true [],.sl false [.gr 0 (n : Int).toNat],.sl false [.agg [.gr 1 (n : Int).toNat]]],.cells [.int .i64 3,.int .i64 0,.int .i64 2,.int .i64 12,.sl false (zQ.ways.map wyA),.gr 5 k,.gr 6 k],.cells [(bif c then .int .i64 5 else .int .i64 3),.int .i64 0,.int .i64 2,.int .i64 3,(bif d then .sl true [] else .sl false (zQ.ways.map wyA)),(bif e then .sl false [.gr 7 5] else .sl false (zQ.looks.map rwA)),(bif f then .sl false [.agg [.gr 8 5]] else .sl false (zQ.truths.map trA))],.grow 22 (lkK k).isEmpty ((lkK k).map rwA),.grow 46 (tuK k).isEmpty ((tuK k).map trA),(bif a then .grow 3 false (List.replicate 5 (.int .i64 0)) else .free),(bif b then .grow 43 false (List.replicate 5 (.sl true [])) else .free)]
   | _=>[]) [.gr 7 5,.sl false [.gr 7 5],.gr 8 5,.agg [.gr 8 5],.sl false [.agg [.gr 8 5]],_,_,_,_,_,_,_,_] (zbQ (by kernel_rfl)) rfl
  ·skip
   repeat' first|(first|((refine zt.at 7 rfl ?_);(conv=>whnf);exact zg.mk rfl rfl)|((refine zt.at 8 rfl ?_);(conv=>whnf);exact zg.mk rfl rfl))|((with_reducible first|apply Chk.go|apply ChkA.go);conv=>whnf)|(refine zh.a ?_;conv=>whnf)|(with_reducible first|apply XAnd.mk|exact trivial)|(exact zg.mk rfl rfl)|fail
  ·skip
   repeat' first|(first|((refine zt.at 7 rfl ?_);(conv=>whnf);exact zg.mk rfl rfl)|((refine zt.at 8 rfl ?_);(conv=>whnf);exact zg.mk rfl rfl))|((with_reducible first|apply Chk.go|apply ChkF.go|apply ChkB.go);conv=>whnf)|(refine zh.a ?_;conv=>whnf)|(with_reducible first|apply XAnd.mk|exact trivial)|(exact zg.mk rfl rfl)|fail
  conv=>whnf
  repeat' ((with_reducible refine XGo.go za [] ?_);conv=>whnf)
  refine Walk.nilcell 4 4 40 rfl rfl ?_
  refine Walk.thenKeep ?_
  refine Walk.loopGKW [(28,_),(29,_),(30,_),(31,_),(411,_),(455,_)] ⟨rfl,rfl,rfl,rfl,rfl,rfl,trivial⟩ (fun j : Nat=>j <= n) (fun j=>[(456,natA j)]) (fun j=>[.grow 3 false (List.replicate (n : Int).toNat (.int .i64 0)),.grow 43 false (List.replicate (n : Int).toNat (.sl true [])),.cells [natA n,.int .i64 0,.int .i64 1,.int .i64 3,.sl true [],.sl false [.gr 0 (n : Int).toNat],.sl false [.agg [.gr 1 (n : Int).toNat]]],.cells [.int .i64 3,.int .i64 0,.int .i64 2,.int .i64 12,.sl false (zQ.ways.map wyA),.gr 5 k,.gr 6 k],.cells [.int .i64 5,.int .i64 0,.int .i64 2,.int .i64 3,.gr 9 j,.sl false [.gr 7 5],.sl false [.agg [.gr 8 5]]],.grow 22 (lkK k).isEmpty ((lkK k).map rwA),.grow 46 (tuK k).isEmpty ((tuK k).map trA),.grow 3 false (List.replicate 5 (.int .i64 0)),.grow 43 false (List.replicate 5 (.sl true [])),.grow 40 (gm.take j).isEmpty ((gm.take j).map wyA)]) (fun j=>n - j) 0 (Nat.zero_le _) rfl ⟨rfl,trivial⟩ ?_ (fun _ _=>(show (10 : Nat) <= 10 from Nat.le_refl 10)) ?_
  ·intro j _
   refine ⟨fun z hz=>?_,fun z hz=>?_⟩
   ·simp only [List.mem_cons,List.not_mem_nil,or_false] at hz
    rcases hz with rfl | rfl | rfl | rfl | rfl | rfl | rfl | rfl | rfl | rfl
    ·exact zw.2 fun x hx=>by rw [List.eq_of_mem_replicate hx];rfl
    ·exact zw.2 fun x hx=>by rw [List.eq_of_mem_replicate hx];rfl
    ·rfl
    ·rfl
    ·rfl
    ·exact yP _
    ·exact yO _
    ·rfl
    ·rfl
    ·exact yB _
   ·simp only [List.cons_append,List.nil_append,List.mem_cons,List.not_mem_nil,or_false] at hz
    rcases hz with rfl | rfl | rfl | rfl | rfl | rfl | rfl <;> rfl
  have z5 : ∀ (k : Nat) (H : List Blk) (i : Nat),lget H i = some (.grow 3 false (List.replicate k (.int .i64 0))) -> Froz Tryz.prog H (.gr i k) (rwA (false,List.replicate k 0)):=fun k H i h=>by
   show Froz _ _ _ (.sl false (ints (List.replicate k 0)))
   rw [ints,List.map_replicate]
   exact Froz.grow h List.length_replicate (zw.2 fun x hx=>by rw [List.eq_of_mem_replicate hx];rfl)
  have z6 : ∀ (k : Nat) (H : List Blk) (i : Nat),lget H i = some (.grow 43 false (List.replicate k (.sl true []))) -> Froz Tryz.prog H (.gr i k) (.sl false ((List.replicate k ((true,[]) : Sps)).map spsA)):=fun k H i h=>by
   rw [List.map_replicate]
   exact Froz.grow h List.length_replicate (zw.2 fun x hx=>by rw [List.eq_of_mem_replicate hx];rfl)
  intro j hj
  refine Walk.step za [] ?_
  conv=>whnf
  have hl3 : ((gm.take j).map wyA).length = j:=by rw [List.length_map,List.length_take];show min j 13 = j;omega
  by_cases hjn : j < n
  ·have hnx:=zdx j (by omega)
   repeat' first|((first|(refine zh.mk ⟨rfl,hl3,by unfold Room;constructor <;> ((try simp) <;> omega)⟩ ?_)|refine XIx.nat (f:=fun z=>AV.int .i64 z) (xs:=wyA1) (show j < 13 by omega) (fun _=>rfl) ?_|refine XIx.nat (f:=fun z=>AV.int .i64 z) (xs:=wyA2) (show j < 13 by omega) (fun _=>rfl) ?_);conv=>whnf)|((with_reducible first|refine XBr.y fun h=>?_|refine XBr.n fun h=>?_|refine XBr.dec (fun h=>?_) fun h=>?_|refine XInt.a ?_|apply Chk.go|apply ChkA.go|apply ChkF.go|apply ChkB.go|apply zq.mk) <;> conv=>whnf)|(refine zh.a ?_;conv=>whnf)|(with_reducible first|apply XAnd.mk|exact trivial)|(exact zg.mk rfl rfl)|(apply Walk.drawN (id:=65) za zd [] [12,14] (hsC [_,_,_]) [_,_,_,_,_,_,_,_,_,_,_,_,_,_,_] (by kernel_rfl) rfl)|((with_reducible refine XGo.go za [] ?_);conv=>whnf)|fail
   refine zl.go (j + 1) [] (by omega) (by omega) ?_ ⟨rfl,rfl,rfl,rfl,rfl,rfl,rfl,trivial⟩
   rw [hnx,zy,List.map_append];rfl
  obtain rfl : j = n:=by omega
  repeat' first|((with_reducible first|refine XBr.y fun h=>?_|refine XBr.n fun h=>?_|refine XBr.dec (fun h=>?_) fun h=>?_) <;> conv=>whnf)|((with_reducible refine XGo.go za [] ?_);conv=>whnf)|fail
  have hn0 : (j : Int).toNat = j:=Int.toNat_natCast j
  refine vE.go [] _ [(28,natA j),(29,.pim (snC (plS j))),(30,.pim (snC (trK k))),(31,.pim (snC (wyS j))),(411,natA j)] rfl (fun x hx=>by cases hx) ⟨⟨_,rfl,.same rfl⟩,⟨_,rfl,.all (Froz.ptr rfl (gZ _) (.cons (.low rfl) (.cons (.low rfl) (.cons (.low rfl) (.cons (.low rfl) (.cons (.low rfl) (.cons ?_ (.cons ?_ .nil))))))))⟩,⟨_,rfl,.all (Froz.ptr rfl (gZ _) (.cons (.low rfl) (.cons (.low rfl) (.cons (.low rfl) (.cons (.low rfl) (.cons (.low (yB _)) (.cons (Froz.grow rfl hl1 (yP _)) (.cons (Froz.grow rfl hl2 (yO _)) .nil))))))))⟩,⟨_,rfl,.all (Froz.ptr rfl (gZ _) (.cons (.low rfl) (.cons (.low rfl) (.cons (.low rfl) (.cons (.low rfl) (.cons (Froz.grow rfl hl3 (yB _)) (.cons ?_ (.cons ?_ .nil))))))))⟩,⟨_,rfl,.same rfl⟩,trivial⟩ ?_
  ·rw [hn0];exact Froz.slF rfl (fun e he=>by obtain rfl:=List.mem_singleton.1 he;exact ⟨_,List.mem_singleton.2 rfl,rfl⟩) (fun x hx=>by obtain rfl:=List.mem_singleton.1 hx;rfl) (.cons (z5 j _ 0 rfl) .nil)
  ·rw [hn0];exact Froz.slF rfl (fun e he=>by obtain rfl:=List.mem_singleton.1 he;exact ⟨_,List.mem_singleton.2 rfl,rfl⟩) (fun x hx=>by obtain rfl:=List.mem_singleton.1 hx;rfl) (.cons (z6 j _ 1 rfl) .nil)
  ·exact Froz.slF rfl (fun e he=>by obtain rfl:=List.mem_singleton.1 he;exact ⟨_,List.mem_singleton.2 rfl,rfl⟩) (fun x hx=>by obtain rfl:=List.mem_singleton.1 hx;rfl) (.cons (z5 5 _ 7 rfl) .nil)
  ·exact Froz.slF rfl (fun e he=>by obtain rfl:=List.mem_singleton.1 he;exact ⟨_,List.mem_singleton.2 rfl,rfl⟩) (fun x hx=>by obtain rfl:=List.mem_singleton.1 hx;rfl) (.cons (z6 5 _ 8 rfl) .nil)
  refine jN ?_
  refine XGo.mk ?_
  clear z5 z6 hl1 hl2 hl3
  refine Walk.step za [] ?_
  conv=>whnf
  have s1:=F.sands (plS j) ((j : Int) - 1) 3 1
  have s2:=fun v=>F.sands (trK k) 2 0 v
  have s3:=F.steps (wyS j) 0 0 1 (0,0) (by decide) (by decide) true [] (by decide) (by simp) 0
  have s4:=F.starts (wyS j) 0 1
  have sh:=sh_le (min (j : Int) 6) IntKind.i64.bits (by omega) (by omega)
  have hE1:=plS_E j hn13
  have hE2:=trK_E k (by omega)
  have hE3:=wyS_E j hn13
  have c1:=jp (plS j) (plS_B j hn13)
  have c2:=jp (trK k) (trK_B k (by omega))
  have c3:=jp (wyS j) (wyS_B j hn13)
  generalize snE (plS j) = E1 at c1 hE1
  generalize snE (trK k) = E2 at c2 hE2
  generalize snE (wyS j) = E3 at c3 hE3
  have hcs : j = 0 \/ j = 1 \/ (2 <= j /\ j < 5) \/ j = 5 \/ (6 <= j /\ j < 8) \/ (8 <= j /\ j < 11) \/ 11 <= j:=by omega
  rcases hcs with hc | hc | hc | hc | hc | hc | hc
  all_goals
   have b1 : (E1 == 0) = decide (1 < j /\ j < 6):=by rw [Bool.eq_iff_iff,beq_iff_eq,decide_eq_true_eq];exact hE1
   have b2 : (E2 == 0) = decide (0 < k /\ k < 5):=by rw [Bool.eq_iff_iff,beq_iff_eq,decide_eq_true_eq];exact hE2
   have b3 : (E3 == 0) = decide (j < 11):=by rw [Bool.eq_iff_iff,beq_iff_eq,decide_eq_true_eq];exact hE3
   repeat' first|((first|refine XInt.i64 (by omega) (by omega) ?_|refine zb.ret s1 ?_|refine zb.ret (s2 _) ?_|refine zb.ret s3 ?_|refine zb.ret s4 ?_);conv=>whnf)|((with_reducible first|apply XBr.tt|apply XBr.ff|refine XBr.y fun h=>?_|refine XBr.n fun h=>?_|refine XBr.dec (fun h=>?_) fun h=>?_|apply Chk.go|apply ChkA.go|apply ChkF.go|apply ChkB.go|apply zq.mk) <;> conv=>whnf)|(refine zh.a ?_;conv=>whnf)|(with_reducible first|apply XBr.not|apply XAnd.mk|exact trivial)|(exact zg.mk rfl rfl)|(apply Walk.drawN (id:=67) za zd [] [] (hsU _) [_,_,_,_,_,_,_,_,_,_,_,_,_,_,_,_,_,_,_,_,_,_,_,_,_,_,_,_,_,_] (by kernel_rfl) rfl)|((with_reducible refine XGo.go za [] ?_);conv=>whnf)|fail
   refine Walk.norm za [] [(28,_),(29,_),(30,_),(31,_),(411,_)] ⟨rfl,rfl,rfl,rfl,rfl,trivial⟩ ?_
   conv=>whnf
   repeat' first|((first|refine zb.ret c1 ?_|refine zb.ret c2 ?_|refine zb.ret c3 ?_);conv=>whnf)|((with_reducible first|apply XBr.tt|apply XBr.ff|refine XBr.y fun h=>?_|refine XBr.n fun h=>?_|refine XBr.dec (fun h=>?_) fun h=>?_|refine XInt.a ?_) <;> conv=>whnf)|((with_reducible refine XGo.go za [] ?_);conv=>whnf)|((with_reducible refine XBr.mk' (fun h=>?_) fun h=>?_) <;> conv=>whnf)|fail
   all_goals first|exact zl.go (j + 1) _ (by omega) (by omega) rfl ⟨rfl,trivial⟩|(rw [b1] at h;exact (bneD h (by constructor <;> intro _ <;> omega)).elim)|(rw [b1] at h;exact (bneF h (by omega)).elim)|(rw [b2] at h;exact (bneD h (by constructor <;> intro _ <;> omega)).elim)|(rw [b2] at h;exact (bneF h (by omega)).elim)|(rw [b3] at h;exact (bneD h (by constructor <;> intro _ <;> omega)).elim)|(rw [b3] at h;exact (bneF h (by omega)).elim)
 ·obtain rfl : n = 13:=by omega
  refine XGo.go za [] ?_
  conv=>whnf
  refine XBr.no (decide_eq_false (by omega)) ?_
  conv=>whnf
  repeat' ((with_reducible refine XGo.go za [] ?_);conv=>whnf)
  refine vE.go [] _ [] rfl (fun x hx=>by cases hx) trivial ?_
  refine jN ?_
  exact XGo.at [] trivial (fsEnd F)
end GA
end
section
namespace GA
open Go Go.RowKit Go.Proofs
theorem wv {α β : Type} (f : α -> β) (l : List α) (i : Nat) (d : α) : (l.map f).getD i (f d) = f (l.getD i d):=by
 rw [List.getD_eq_getElem?_getD,List.getD_eq_getElem?_getD,List.getElem?_map]
 cases l[i]? <;> rfl
structure SnEq (s u : Sn) : Prop where
 places : s.places = u.places
 home : s.home = u.home
 bed : s.bed = u.bed
 last : s.last = u.last
 ways : s.ways = u.ways
 looks : s.looks.map (·.2) = u.looks.map (·.2)
 truths : s.truths.map (fun t=>t.2.map (·.2)) = u.truths.map (fun t=>t.2.map (·.2))
theorem SnEq.lenK {s u : Sn} (e : SnEq s u) : s.looks.length = u.looks.length:=by have:=congrArg List.length e.looks;simpa using this
theorem SnEq.lenT {s u : Sn} (e : SnEq s u) : s.truths.length = u.truths.length:=by have:=congrArg List.length e.truths;simpa using this
theorem za4 (s : Sn) (t p : Nat) : ko s t p = ((s.looks.map (·.2)).getD t []).getD p default:=by
 unfold ko;rw [show ([] : List Int) = (default : Rw).2 from rfl,wv (fun r : Rw=>r.2)]
theorem SnEq.look {s u : Sn} (e : SnEq s u) (t p : Nat) : ko s t p = ko u t p:=by rw [za4,za4,e.looks]
theorem zca (s : Sn) (t p m : Nat) : dryT s t p m = ((((s.truths.map fun t=>t.2.map (·.2)).getD t []).getD p []).any fun x=>inZ m x.1 x.2):=by
 unfold dryT
 rw [show ([] : List (List (Int × Int))) = (default : Tru).2.map (·.2) from rfl,wv (fun t : Tru=>t.2.map (·.2)),show ([] : List (Int × Int)) = (default : Sps).2 from rfl,wv (fun t : Sps=>t.2)]
theorem SnEq.dry {s u : Sn} (e : SnEq s u) (t p m : Nat) : dryT s t p m = dryT u t p m:=by rw [zca,zca,e.truths]
theorem SnEq.drN {s u : Sn} (e : SnEq s u) (p m : Nat) : drN s p m = drN u p m:=by unfold GA.drN;rw [e.lenT];exact kG fun i _=>e.dry i p m
theorem SnEq.allN {s u : Sn} (e : SnEq s u) : allN s = allN u:=by unfold GA.allN;rw [e.lenT]
theorem SnEq.partN {s u : Sn} (e : SnEq s u) (p l n : Nat) : partN s p l n = partN u p l n:=by unfold GA.partN;rw [e.lenK];exact kG fun i _=>by rw [e.look]
theorem SnEq.parts {s u : Sn} (e : SnEq s u) (p l : Nat) : zC s p l = zC u p l:=by
 unfold zC
 have : ∀ k,zJ s p l k = zJ u p l k:=fun k=>by
  induction k with
  | zero=>rfl
  | succ k ih=>rw [zJ,zJ,ih,e.partN]
 exact this 4
theorem SnEq.safe {s u : Sn} (e : SnEq s u) (x : Sta) : zW s x = zW u x:=by unfold zW;rw [e.drN]
theorem SnEq.waysL {s u : Sn} (e : SnEq s u) (p : Nat) : waysL s p = waysL u p:=by
 unfold GA.waysL
 rw [e.places]
 have : ∀ k,yc s p k = yc u p k:=fun k=>by
  induction k with
  | zero=>rfl
  | succ k ih=>rw [yc,yc,ih];unfold jf;rw [e.ways]
 exact this _
theorem SnEq.out {s u : Sn} (e : SnEq s u) (x : Sta) (t : Int × Int) : outS s x t = outS u x t:=by unfold outS;rw [e.parts]
theorem SnEq.after {s u : Sn} (e : SnEq s u) (x : Sta) (t : Int × Int) : zm s x t = zm u x t:=by
 unfold zm
 rw [e.out,e.waysL,e.last,e.safe,show zW s = zW u from funext fun y=>e.safe y]
theorem SnEq.steps {s u : Sn} (e : SnEq s u) (x : Sta) : zT s x = zT u x:=by
 unfold zT
 rw [e.waysL,show (fun t=>!(zm s x t).isEmpty) = (fun t=>!(zm u x t).isEmpty) from funext fun t=>by rw [e.after]]
theorem SnEq.gain {s u : Sn} (e : SnEq s u) (f : Sta -> Int) (x : Sta) (t : Int × Int) : zP s f x t = zP u f x t:=by unfold zP;rw [e.after,e.bed]
theorem SnEq.best {s u : Sn} (e : SnEq s u) (f : Sta -> Int) (x : Sta) : zM s f x = zM u f x:=by
 unfold zM ye
 rw [e.safe,e.steps,e.home,show (fun n t=>max n (zP s f x t)) = (fun n t=>max n (zP u f x t)) from funext fun n=>funext fun t=>by rw [e.gain]]
theorem SnEq.worth {s u : Sn} (e : SnEq s u) (x : Sta) : zi s x = zi u x:=by
 unfold zi
 rw [e.last]
 have : ∀ k y,yD s k y = yD u k y:=fun k=>by
  induction k with
  | zero=>intro y;rfl
  | succ k ih=>intro y;rw [yD,yD,e.best,show yD s k = yD u k from funext ih]
 exact this _ _
theorem vd {α β : Type} {f : α -> β} {p : β -> Bool} (l : List α) : l.all (fun x=>p (f x)) = (l.map f).all p:=by rw [List.all_map];rfl
theorem SnEq.err {s u : Sn} (e : SnEq s u) : snE s = snE u:=by
 have h1 : cntB s = cntB u:=by
  unfold cntB
  rw [e.places,e.ways,e.lenK,e.lenT]
  have a1 : (s.looks.all fun l=>decide ((l.2.length : Int) = u.places)) = (u.looks.all fun l=>decide ((l.2.length : Int) = u.places)):=by
   rw [vd (f:=fun r : Rw=>r.2) (p:=fun l=>decide ((l.length : Int) = u.places)),e.looks,<- vd (f:=fun r : Rw=>r.2) (p:=fun l=>decide ((l.length : Int) = u.places))]
  have a2 : (s.truths.all fun t=>decide ((t.2.length : Int) = u.places)) = (u.truths.all fun t=>decide ((t.2.length : Int) = u.places)):=by
   have k : ∀ v : Sn,(v.truths.all fun t=>decide ((t.2.length : Int) = u.places)) = ((v.truths.map fun t=>t.2.map (·.2)).all fun l=>decide ((l.length : Int) = u.places)):=fun v=>by
    rw [<- vd (f:=fun t : Tru=>t.2.map (·.2)) (p:=fun l=>decide ((l.length : Int) = u.places))]
    simp only [List.length_map]
   rw [k s,k u,e.truths]
  rw [a1,a2]
 have h2 : (s.looks.all fun l=>l.2.all fun n=>inZ n 0 3) = (u.looks.all fun l=>l.2.all fun n=>inZ n 0 3):=by
  rw [vd (f:=fun r : Rw=>r.2) (p:=fun l=>l.all fun n=>inZ n 0 3),e.looks,<- vd (f:=fun r : Rw=>r.2) (p:=fun l=>l.all fun n=>inZ n 0 3)]
 have h3 : plB s = plB u:=funext fun p=>by unfold plB;rw [e.places]
 have h4 : agnB s = agnB u:=by
  unfold agnB
  rw [show agnI s = agnI u from funext fun i=>by unfold agnI wyB;rw [e.ways],e.ways]
 have h5 : s.truths.map (trE s) = u.truths.map (trE u):=by
  have k : ∀ v : Sn,v.last = u.last -> v.truths.map (trE v) = (v.truths.map fun t=>t.2.map (·.2)).map fun l=>yW (l.map fun r=>spE u.last none r):=fun v hv=>by
   rw [List.map_map]
   refine List.map_congr_left fun t _=>?_
   show yW _ = yW _
   rw [List.map_map,hv];rfl
  rw [k s e.last,k u rfl,e.truths]
 unfold snE
 rw [h1,h2,h3,h4,h5,e.last,e.ways,e.home,e.bed]
def ownR (r : Rw) : Rw:=(false,r.2)
def ownT (t : Tru) : Tru:=(false,t.2.map fun r=>(false,r.2))
def ownS (s : Sn) : Sn:={ s with nw:=false,nk:=false,nt:=false,looks:=s.looks.map ownR,truths:=s.truths.map ownT }
theorem kL (s : Sn) : SnEq s (ownS s):=by
 refine ⟨rfl,rfl,rfl,rfl,rfl,?_,?_⟩
 ·show _ = (s.looks.map ownR).map _
  rw [List.map_map];rfl
 ·show _ = (s.truths.map ownT).map _
  rw [List.map_map]
  refine List.map_congr_left fun t _=>?_
  show _ = (t.2.map _).map _
  rw [List.map_map];rfl
end GA
end
section
namespace GA
open Go Go.RowKit Go.Proofs
theorem wideWy (xs : List Wy) : wide 3 (xs.map wyA) = true:=wt (f:=wyA) (n:=3) (fun _=>rfl) (fun _=>rfl) xs
theorem wideSg (xs : List (Int × Int)) : wide 2 (xs.map sgA) = true:=wt (f:=sgA) (n:=2) (fun _=>rfl) (fun _=>rfl) xs
theorem wideTr (xs : List Tru) : wide 1 (xs.map trA) = true:=wt (f:=trA) (n:=1) (fun _=>rfl) (fun _=>rfl) xs
theorem dup_wy (nl : Bool) (xs : List Wy) (hx : xs.length <= 100000) : Comp Tryz.prog 232 [.sl nl (xs.map wyA)] (.sl false (xs.map wyA)):=by
 refine Comp.body (T:=tab) (res:=[.tmp 2]) za [] Tryz.func232 rfl (by kernel_rfl) Tryz.ntmps232 rfl (by simp only [List.length_cons,List.length_nil];decide) (by simp only [lowL,AV.low,yB];rfl) ?_;conv=>whnf
 refine zh.mk ⟨by omega,by simp,by unfold Room;simp;omega⟩ ?_
 conv=>whnf
 refine zh.mk (wideWy xs) ?_
 conv=>whnf
 refine zh.mk ⟨rfl,rfl,by unfold Room;simp;omega⟩ ?_
 conv=>whnf
 exact ⟨Froz.grow rfl (by simp) (yB xs)⟩
theorem dup_sg (nl : Bool) (xs : List (Int × Int)) (hx : xs.length <= 100000) : Comp Tryz.prog 349 [.sl nl (xs.map sgA)] (.sl false (xs.map sgA)):=by
 refine Comp.body (T:=tab) (res:=[.tmp 2]) za [] Tryz.func349 rfl (by kernel_rfl) Tryz.ntmps349 rfl (by simp only [List.length_cons,List.length_nil];decide) (by simp only [lowL,AV.low,zN];rfl) ?_;conv=>whnf
 refine zh.mk ⟨by omega,by simp,by unfold Room;simp;omega⟩ ?_
 conv=>whnf
 refine zh.mk (wideSg xs) ?_
 conv=>whnf
 refine zh.mk ⟨rfl,rfl,by unfold Room;simp;omega⟩ ?_
 conv=>whnf
 exact ⟨Froz.grow rfl (by simp) (zN xs)⟩
theorem renTr (f : Nat -> Nat) (nl : Bool) (xs : List Tru) : Blk.ren f (.grow 46 nl (xs.map trA)) = .grow 46 nl (xs.map trA):=Blk.ren_low (n:=0) (fun i hi=>by omega) (yO xs)
theorem dup_tr_g (nl : Bool) (xs : List Tru) (hx : xs.length <= 100000) : kC Tryz.prog 233 [.sl nl (xs.map trA)] (.gr 0 xs.length) [.grow 46 false (xs.map trA)]:=by
 refine kC.body (T:=tab) (res:=[.tmp 2]) za [] Tryz.func233 rfl (by kernel_rfl) Tryz.ntmps233 rfl (by simp only [List.length_cons,List.length_nil];decide) (by simp only [lowL,AV.low,yO];rfl) rfl (fun x hx=>by simp only [List.mem_cons,List.not_mem_nil,or_false] at hx;subst hx;exact yO _) ?_;conv=>whnf
 refine zh.mk ⟨by omega,by simp,by unfold Room;simp;omega⟩ ?_
 conv=>whnf
 refine zh.mk (wideTr xs) ?_
 conv=>whnf
 refine zh.mk ⟨rfl,rfl,by unfold Room;simp;omega⟩ ?_
 conv=>whnf
 exact w7.mk' [0] rfl (by decide) ⟨congrArg some (renTr _ _ _).symm,trivial⟩ (by show AV.gr 0 _ = AV.gr 0 _;congr 1;show 0 + (xs.map trA).length = _;rw [List.length_map,Nat.zero_add])
theorem zb.dupTr {nl : Bool} {xs : List Tru} {H : List Blk} {k : AV -> List Blk -> Prop} (hx : xs.length <= 100000) (hk : k (.gr H.length xs.length) (H ++ [.grow 46 false (xs.map trA)])) : zb Tryz.prog 233 [.sl nl (xs.map trA)] H k:=by
 refine zb.give (dup_tr_g nl xs hx) ?_
 rw [List.map_cons,renTr,List.map_nil];exact hk
def ownP (r : Sps) : Sps:=(false,r.2)
theorem fy (nl : Bool) (xs : List Rw) (hx : xs.length <= 1000) (hr : ∀ r ∈ xs,r.2.length <= 1000) : Comp Tryz.prog 92 [.sl nl (xs.map rwA)] (.sl false ((xs.map ownR).map rwA)):=by
 have e1 : ((xs.map rwA).length : Int) = xs.length:=by rw [List.length_map]
 refine Comp.body (T:=tab) (res:=[.tmp 2]) za [] Tryz.func92 rfl (by kernel_rfl) Tryz.ntmps92 rfl (by simp only [List.length_cons,List.length_nil];decide) (by simp only [lowL,AV.low,yP];rfl) ?_;conv=>whnf
 refine zh.mk ⟨by omega,by omega,by unfold Room;simp;omega⟩ ?_
 conv=>whnf
 skip
 refine Walk.loopGK za [] [(2,_),(9,_),(10,_)] ⟨rfl,rfl,rfl,trivial⟩ (fun k : Nat=>k <= xs.length) (fun k=>[(3,.gr 0 k),(11,natA k)]) (fun k=>[.grow 22 false (((xs.take k).map ownR).map rwA)]) (fun k=>xs.length - k) 0 (Nat.zero_le _) rfl ⟨rfl,rfl,trivial⟩ ?_ (fun _ _=>(show (1 : Nat) <= 1 from Nat.le_refl 1)) ?_
 ·intro k _
  refine ⟨fun z hz=>?_,fun z hz=>?_⟩
  ·rw [List.mem_singleton] at hz;subst hz;exact yP _
  ·simp only [List.cons_append,List.nil_append,List.mem_cons,List.not_mem_nil,or_false] at hz
   rcases hz with rfl | rfl | rfl | rfl | rfl <;> first | rfl|exact yP _
 intro k hk
 have hnx:=fun h=>zD (xs:=xs) (i:=k) h
 have hall : k = xs.length -> xs.take k = xs:=fun h=>by rw [h,List.take_length]
 have hkl : (xs.take k).length = k:=by rw [List.length_take];omega
 generalize xs.take k = R at hnx hall hkl
 have hRl : ((R.map ownR).map rwA).length = k:=by rw [List.length_map,List.length_map];exact hkl
 conv=>whnf
 by_cases hlt : k < xs.length
 ·have hd:=dup_int (xs.getD k default).1 (xs.getD k default).2 (by have:=hr _ (zk (d:=default) hlt);omega)
  repeat' first|((with_reducible first|refine XBr.y fun h=>?_|refine XBr.n fun h=>?_|refine XBr.dec (fun h=>?_) fun h=>?_|refine XInt.a ?_) <;> conv=>whnf)|((first|refine zh.a ?_|refine XIx.a ?_|refine zb.ret hd ?_);conv=>whnf)|fail
  refine zl.go (k + 1) [] (by omega) (by omega) ?_ ⟨rfl,rfl,rfl,rfl,rfl,trivial⟩
  show [Blk.grow _ false (((xs.take (k + 1)).map ownR).map rwA)] ++ [] = _
  rw [hnx hlt,List.map_append,List.map_append];rfl
 obtain rfl : k = xs.length:=by omega
 obtain rfl:=hall rfl
 repeat' ((with_reducible first|refine XBr.y fun h=>?_|refine XBr.n fun h=>?_|refine XBr.dec (fun h=>?_) fun h=>?_) <;> conv=>whnf)
 exact ⟨Froz.grow rfl hRl (yP _)⟩
theorem zcc (nl : Bool) (xs : List Sps) (hx : xs.length <= 1000) (hr : ∀ r ∈ xs,r.2.length <= 1000) : Comp Tryz.prog 234 [.sl nl (xs.map spsA)] (.sl false ((xs.map ownP).map spsA)):=by
 have e1 : ((xs.map spsA).length : Int) = xs.length:=by rw [List.length_map]
 refine Comp.body (T:=tab) (res:=[.tmp 2]) za [] Tryz.func234 rfl (by kernel_rfl) Tryz.ntmps234 rfl (by simp only [List.length_cons,List.length_nil];decide) (by simp only [lowL,AV.low,y9];rfl) ?_;conv=>whnf
 refine zh.mk ⟨by omega,by omega,by unfold Room;simp;omega⟩ ?_
 conv=>whnf
 skip
 refine Walk.loopGK za [] [(2,_),(9,_),(10,_)] ⟨rfl,rfl,rfl,trivial⟩ (fun k : Nat=>k <= xs.length) (fun k=>[(3,.gr 0 k),(11,natA k)]) (fun k=>[.grow 43 false (((xs.take k).map ownP).map spsA)]) (fun k=>xs.length - k) 0 (Nat.zero_le _) rfl ⟨rfl,rfl,trivial⟩ ?_ (fun _ _=>(show (1 : Nat) <= 1 from Nat.le_refl 1)) ?_
 ·intro k _
  refine ⟨fun z hz=>?_,fun z hz=>?_⟩
  ·rw [List.mem_singleton] at hz;subst hz;exact y9 _
  ·simp only [List.cons_append,List.nil_append,List.mem_cons,List.not_mem_nil,or_false] at hz
   rcases hz with rfl | rfl | rfl | rfl | rfl <;> first | rfl|exact y9 _
 intro k hk
 have hnx:=fun h=>zD (xs:=xs) (i:=k) h
 have hall : k = xs.length -> xs.take k = xs:=fun h=>by rw [h,List.take_length]
 have hkl : (xs.take k).length = k:=by rw [List.length_take];omega
 generalize xs.take k = R at hnx hall hkl
 have hRl : ((R.map ownP).map spsA).length = k:=by rw [List.length_map,List.length_map];exact hkl
 conv=>whnf
 by_cases hlt : k < xs.length
 ·have hd:=dup_sg (xs.getD k default).1 (xs.getD k default).2 (by have:=hr _ (zk (d:=default) hlt);omega)
  repeat' first|((with_reducible first|refine XBr.y fun h=>?_|refine XBr.n fun h=>?_|refine XBr.dec (fun h=>?_) fun h=>?_|refine XInt.a ?_) <;> conv=>whnf)|((first|refine zh.a ?_|refine XIx.a ?_|refine zb.ret hd ?_);conv=>whnf)|fail
  refine zl.go (k + 1) [] (by omega) (by omega) ?_ ⟨rfl,rfl,rfl,rfl,rfl,trivial⟩
  show [Blk.grow _ false (((xs.take (k + 1)).map ownP).map spsA)] ++ [] = _
  rw [hnx hlt,List.map_append,List.map_append];rfl
 obtain rfl : k = xs.length:=by omega
 obtain rfl:=hall rfl
 repeat' ((with_reducible first|refine XBr.y fun h=>?_|refine XBr.n fun h=>?_|refine XBr.dec (fun h=>?_) fun h=>?_) <;> conv=>whnf)
 exact ⟨Froz.grow rfl hRl (y9 _)⟩
theorem equalR_rw (n1 n2 : Bool) (xs : List Rw) (hx : xs.length <= 1000) (hr : ∀ r ∈ xs,r.2.length <= 1000) : Comp Tryz.prog 255 [.sl n1 ((xs.map ownR).map rwA),.sl n2 (xs.map rwA),.fn 245 []] (.bool true):=by
 have e1 : (((xs.map ownR).map rwA).length : Int) = xs.length:=by rw [List.length_map,List.length_map]
 have e2 : ((xs.map rwA).length : Int) = xs.length:=by rw [List.length_map]
 have e3 : (xs.map ownR).length = xs.length:=List.length_map _
 refine Comp.body (T:=tab) (res:=[.tmp 6]) za [] Tryz.func255 rfl (by kernel_rfl) Tryz.ntmps255 rfl (by simp only [List.length_cons,List.length_nil];decide) (by simp only [lowL,AV.low,yP];rfl) ?_;conv=>whnf
 repeat' ((with_reducible first|refine XBr.y2 fun h=>?_|refine XBr.n2 fun h=>?_|refine XBr.bne (fun h=>?_) fun h=>?_) <;> conv=>whnf)
 refine Walk.loopK za [] [(1,_),(2,_),(15,_),(16,_)] ⟨rfl,rfl,rfl,rfl,trivial⟩ (fun i : Nat=>i <= xs.length) (fun i=>[(17,natA i)]) (fun _=>[]) (fun i=>xs.length - i) 0 (Nat.zero_le _) rfl ⟨rfl,trivial⟩ ?_
 intro i hi
 conv=>whnf
 by_cases hlt : i < xs.length
 ·have hq:=equalI false (xs.getD i default).1 (xs.getD i default).2 (by have:=hr _ (zk (d:=default) hlt);omega)
  have hg : (xs.map ownR).getD i default = ownR (xs.getD i default):=by
   rw [List.getD_eq_getElem?_getD,List.getD_eq_getElem?_getD,List.getElem?_map,List.getElem?_eq_getElem hlt];rfl
  repeat' first|((with_reducible first|apply XBr.tt|refine XBr.y fun h=>?_|refine XBr.n fun h=>?_|refine XBr.dec (fun h=>?_) fun h=>?_|refine XInt.a ?_) <;> conv=>whnf)|(refine XIx.a ?_;conv=>whnf) | with_reducible apply XBr.not|(rw [hg];(refine zb.ret hq ?_);conv=>whnf)|fail
  exact zj.go (i + 1) (by omega) (by omega) rfl ⟨rfl,rfl,rfl,rfl,rfl,trivial⟩
 obtain rfl : i = xs.length:=by omega
 repeat' ((with_reducible first|refine XBr.y fun h=>?_|refine XBr.n fun h=>?_|refine XBr.dec (fun h=>?_) fun h=>?_) <;> conv=>whnf)
 exact XOut.bool rfl
theorem zbn (n1 n2 : Bool) (xs : List Rw) (hx : xs.length <= 1000) (hr : ∀ r ∈ xs,r.2.length <= 1000) : Comp Tryz.prog 90 [.sl n1 ((xs.map ownR).map rwA),.sl n2 (xs.map rwA)] (.bool true):=by
 refine Comp.body (T:=tab) (res:=[.tmp 4]) za [] Tryz.func90 rfl (by kernel_rfl) Tryz.ntmps90 rfl (by simp only [List.length_cons,List.length_nil];decide) (by simp only [lowL,AV.low,yP];rfl) ?_;conv=>whnf
 repeat' ((refine zb.ret (equalR_rw n1 n2 xs hx hr) ?_);conv=>whnf)
 exact XOut.bool rfl
theorem equal_sp (n1 n2 : Bool) (xs : List (Int × Int)) (hx : xs.length <= 100000) : Comp Tryz.prog 352 [.sl n1 (xs.map sgA),.sl n2 (xs.map sgA)] (.bool true):=by
 refine Comp.body (T:=tab) (res:=[.tmp 4]) za [] Tryz.func352 rfl (by kernel_rfl) Tryz.ntmps352 rfl (by simp only [List.length_cons,List.length_nil];decide) (by simp only [lowL,AV.low,zN];rfl) ?_;conv=>whnf
 repeat' ((with_reducible first|refine XBr.y2 fun h=>?_|refine XBr.n2 fun h=>?_|refine XBr.bne (fun h=>?_) fun h=>?_) <;> conv=>whnf)
 refine Walk.loopK za [] [(0,_),(1,_),(12,_)] ⟨rfl,rfl,rfl,trivial⟩ (fun i : Nat=>i <= xs.length) (fun i=>[(13,natA i)]) (fun _=>[]) (fun i=>xs.length - i) 0 (Nat.zero_le _) rfl ⟨rfl,trivial⟩ ?_
 intro i hi
 conv=>whnf
 have e1 : ((xs.map sgA).length : Int) = xs.length:=by rw [List.length_map]
 by_cases hlt : i < xs.length
 ·skip
  repeat' first|((with_reducible first|apply XBr.ff|refine XBr.y fun h=>?_|refine XBr.n fun h=>?_|refine XBr.dec (fun h=>?_) fun h=>?_|refine XInt.a ?_|apply Chk.go|apply ChkA.go|apply ChkF.go|apply ChkB.go|apply zq.mk) <;> conv=>whnf)|(refine XIx.a ?_;conv=>whnf)|(with_reducible first|apply XAnd.mk|exact trivial)|(exact zg.mk rfl rfl)|(apply Walk.drawN (id:=6) za zd [] [] (hsU _) [_,_,_,_,_,_,_,_,_] (by kernel_rfl) rfl)|((refine XEqA.mk ⟨[(xs.getD i default).1,(xs.getD i default).2],[(xs.getD i default).1,(xs.getD i default).2],rfl,rfl,rfl,rfl,?_⟩);exact zg.mk (show AV.bool (!(_ == _)) = AV.bool false by simp) rfl)|fail
  exact zj.go (i + 1) (by omega) (by omega) rfl ⟨rfl,rfl,rfl,rfl,trivial⟩
 obtain rfl : i = xs.length:=by omega
 repeat' ((with_reducible first|refine XBr.y fun h=>?_|refine XBr.n fun h=>?_|refine XBr.dec (fun h=>?_) fun h=>?_) <;> conv=>whnf)
 exact XOut.bool rfl
theorem zdm (n1 n2 : Bool) (xs : List Sps) (hx : xs.length <= 1000) (hr : ∀ r ∈ xs,r.2.length <= 1000) : Comp Tryz.prog 351 [.sl n1 ((xs.map ownP).map spsA),.sl n2 (xs.map spsA),.fn 352 []] (.bool true):=by
 have e1 : (((xs.map ownP).map spsA).length : Int) = xs.length:=by rw [List.length_map,List.length_map]
 have e2 : ((xs.map spsA).length : Int) = xs.length:=by rw [List.length_map]
 have e3 : (xs.map ownP).length = xs.length:=List.length_map _
 refine Comp.body (T:=tab) (res:=[.tmp 6]) za [] Tryz.func351 rfl (by kernel_rfl) Tryz.ntmps351 rfl (by simp only [List.length_cons,List.length_nil];decide) (by simp only [lowL,AV.low,y9];rfl) ?_;conv=>whnf
 repeat' ((with_reducible first|refine XBr.y2 fun h=>?_|refine XBr.n2 fun h=>?_|refine XBr.bne (fun h=>?_) fun h=>?_) <;> conv=>whnf)
 refine Walk.loopK za [] [(1,_),(2,_),(15,_),(16,_)] ⟨rfl,rfl,rfl,rfl,trivial⟩ (fun i : Nat=>i <= xs.length) (fun i=>[(17,natA i)]) (fun _=>[]) (fun i=>xs.length - i) 0 (Nat.zero_le _) rfl ⟨rfl,trivial⟩ ?_
 intro i hi
 conv=>whnf
 by_cases hlt : i < xs.length
 ·have hq:=equal_sp false (xs.getD i default).1 (xs.getD i default).2 (by have:=hr _ (zk (d:=default) hlt);omega)
  have hg : (xs.map ownP).getD i default = ownP (xs.getD i default):=by
   rw [List.getD_eq_getElem?_getD,List.getD_eq_getElem?_getD,List.getElem?_map,List.getElem?_eq_getElem hlt];rfl
  repeat' first|((with_reducible first|apply XBr.tt|refine XBr.y fun h=>?_|refine XBr.n fun h=>?_|refine XBr.dec (fun h=>?_) fun h=>?_|refine XInt.a ?_) <;> conv=>whnf)|(refine XIx.a ?_;conv=>whnf) | with_reducible apply XBr.not|(rw [hg];(refine zb.ret hq ?_);conv=>whnf)|fail
  exact zj.go (i + 1) (by omega) (by omega) rfl ⟨rfl,rfl,rfl,rfl,rfl,trivial⟩
 obtain rfl : i = xs.length:=by omega
 repeat' ((with_reducible first|refine XBr.y fun h=>?_|refine XBr.n fun h=>?_|refine XBr.dec (fun h=>?_) fun h=>?_) <;> conv=>whnf)
 exact XOut.bool rfl
theorem eqR_sps (n1 n2 : Bool) (xs : List Sps) (hx : xs.length <= 1000) (hr : ∀ r ∈ xs,r.2.length <= 1000) : Comp Tryz.prog 241 [.sl n1 ((xs.map ownP).map spsA),.sl n2 (xs.map spsA)] (.bool true):=by
 refine Comp.body (T:=tab) (res:=[.tmp 4]) za [] Tryz.func241 rfl (by kernel_rfl) Tryz.ntmps241 rfl (by simp only [List.length_cons,List.length_nil];decide) (by simp only [lowL,AV.low,y9];rfl) ?_;conv=>whnf
 repeat' ((refine zb.ret (zdm n1 n2 xs hx hr) ?_);conv=>whnf)
 exact XOut.bool rfl
end GA
end
section
namespace GA
open Go Go.RowKit Go.Proofs
def grtT (t : Tru) : Bool:=decide (8 < t.2.length) || t.2.any fun r=>decide (10 < r.2.length)
def grtS (s : Sn) : Bool:=decide (6 < s.truths.length) || decide (14 < s.ways.length) || decide (6 < s.looks.length) || s.looks.any (fun r=>decide (8 < r.2.length)) || s.truths.any grtT
theorem grt_B {s : Sn} (h : grtS s = false) : SnB s /\ s.truths.length <= 6 /\ s.ways.length <= 14 /\ s.looks.length <= 6 /\ (∀ r ∈ s.looks,r.2.length <= 8) /\ (∀ t ∈ s.truths,t.2.length <= 8 /\ ∀ r ∈ t.2,r.2.length <= 10):=by
 unfold grtS at h
 simp only [Bool.or_eq_false_iff,decide_eq_false_iff_not,List.any_eq_false,decide_eq_true_eq,grtT] at h
 obtain ⟨⟨⟨⟨h1,h2⟩,h3⟩,h4⟩,h5⟩:=h
 have h4' : ∀ r ∈ s.looks,r.2.length <= 8:=fun r hr=>by have:=h4 r hr;omega
 have h5' : ∀ t ∈ s.truths,t.2.length <= 8 /\ ∀ r ∈ t.2,r.2.length <= 10:=fun t ht=>by
  have h6:=h5 t ht
  rw [Bool.or_eq_true,not_or,List.any_eq_true] at h6
  refine ⟨by have:=h6.1;rw [decide_eq_true_eq] at this;omega,fun r hr=>?_⟩
  refine Classical.byContradiction fun e=>h6.2 ⟨r,hr,by rw [decide_eq_true_eq];omega⟩
 refine ⟨⟨by omega,by omega,by omega,fun r hr=>?_,fun t ht=>?_,fun t ht r hr=>?_⟩,by omega,by omega,by omega,h4',h5'⟩
 ·have:=h4' r hr;omega
 ·have:=(h5' t ht).1;omega
 ·have:=(h5' t ht).2 r hr;omega
theorem wb (s : Sn) : Comp Tryz.prog 59 [snA s] (.bool (grtS s)):=by
 have e1 : ((s.ways.map wyA).length : Int) = s.ways.length:=by rw [List.length_map]
 have e2 : ((s.looks.map rwA).length : Int) = s.looks.length:=by rw [List.length_map]
 have e3 : ((s.truths.map trA).length : Int) = s.truths.length:=by rw [List.length_map]
 have hdef : grtS s = (decide (6 < s.truths.length) || decide (14 < s.ways.length) || decide (6 < s.looks.length) || s.looks.any (fun r=>decide (8 < r.2.length)) || s.truths.any grtT):=rfl
 by_cases h1 : 6 < s.truths.length \/ 14 < s.ways.length \/ 6 < s.looks.length
 ·have hg : grtS s = true:=by
   rw [hdef]
   rcases h1 with h | h | h <;> rw [decide_eq_true h] <;> simp
  rw [hg]
  refine Comp.body (T:=tab) (res:=[.tmp 2]) za [] Tryz.func59 rfl (by kernel_rfl) Tryz.ntmps59 rfl (by simp only [List.length_cons,List.length_nil];decide) (by simp only [lowL,snL];rfl) ?_;conv=>whnf
  repeat' first|((with_reducible first|apply XBr.tt|apply XBr.ff);conv=>whnf)|((with_reducible apply XBr.dec) <;> (intro h;first|(exfalso;omega)|((try simp only [List.length_map] at h);first|(exfalso;omega)|(conv=>whnf))))|fail
  all_goals exact XOut.bool rfl
 have h1':=not_or.1 h1
 have h1'':=not_or.1 h1'.2
 rw [hdef,decide_eq_false h1'.1,decide_eq_false h1''.1,decide_eq_false h1''.2]
 simp only [Bool.false_or]
 refine Comp.body (T:=tab) (res:=[.tmp 2]) za [] Tryz.func59 rfl (by kernel_rfl) Tryz.ntmps59 rfl (by simp only [List.length_cons,List.length_nil];decide) (by simp only [lowL,snL];rfl) ?_;conv=>whnf
 repeat' first|((with_reducible apply XBr.ff);conv=>whnf)|((with_reducible apply XBr.dec) <;> (intro h;first|(exfalso;omega)|((try simp only [List.length_map] at h);first|(exfalso;omega)|(conv=>whnf))))|fail
 refine Walk.loopK za [] [(1,_),(26,_),(27,_)] ⟨rfl,rfl,rfl,trivial⟩ (fun k : Nat=>k <= s.looks.length /\ (∀ j,j < k -> decide (8 < (s.looks.getD j default).2.length) = false)) (fun k=>[(28,natA k)]) (fun _=>[]) (fun k=>s.looks.length - k) 0 ⟨Nat.zero_le _,fun j hj=>by omega⟩ rfl ⟨rfl,trivial⟩ ?_
 rintro k ⟨hk,hs⟩
 conv=>whnf
 by_cases hlt : k < s.looks.length
 ·have e4 : ((ints (s.looks.getD k default).2).length : Int) = (s.looks.getD k default).2.length:=by rw [zK]
  repeat' first|((with_reducible refine XInt.a ?_);conv=>whnf)|(refine XIx.a ?_;conv=>whnf)|((with_reducible apply XBr.dec) <;> (intro h;first|(exfalso;omega)|((try simp only [List.length_map] at h);first|(exfalso;omega)|(conv=>whnf))))|fail
  ·rw [List.any_eq_true.2 ⟨_,zk (d:=default) hlt,decide_eq_true (by omega)⟩]
   exact XOut.bool rfl
  ·refine zj.go (k + 1) ⟨by omega,fun j hj=>?_⟩ (by omega) rfl ⟨rfl,rfl,rfl,rfl,trivial⟩
   by_cases e : j = k
   ·subst e;exact decide_eq_false (by omega)
   ·exact hs j (by omega)
 obtain rfl : k = s.looks.length:=by omega
 have q1 : s.looks.any (fun r=>decide (8 < r.2.length)) = false:=by
  rw [List.any_eq_false]
  intro r hr
  obtain ⟨j,hj,rfl⟩:=List.mem_iff_getElem.1 hr
  have:=hs j hj
  rw [List.getD_eq_getElem?_getD,List.getElem?_eq_getElem hj] at this
  simpa using this
 rw [q1,Bool.false_or]
 clear hs
 repeat' ((with_reducible apply XBr.dec) <;> (intro h;first|(exfalso;omega)|((try simp only [List.length_map] at h);first|(exfalso;omega)|(conv=>whnf))))
 refine Walk.loopGK za [] [(37,_),(38,_)] ⟨rfl,rfl,trivial⟩ (fun k : Nat=>k <= s.truths.length /\ (∀ j,j < k -> grtT (s.truths.getD j default) = false)) (fun k=>[(39,natA k)]) (fun _=>[]) (fun k=>s.truths.length - k) 0 ⟨Nat.zero_le _,fun j hj=>by omega⟩ rfl ⟨rfl,trivial⟩ ?_ (fun _ _=>Nat.le_refl _) ?_
 ·intro k _
  refine ⟨by simp,fun z hz=>?_⟩
  simp only [List.cons_append,List.nil_append,List.mem_cons,List.not_mem_nil,or_false] at hz
  rcases hz with rfl | rfl | rfl <;> first | rfl|exact yO _
 rintro k ⟨hk,hs⟩
 conv=>whnf
 by_cases hlt : k < s.truths.length
 ·have e4 : (((s.truths.getD k default).2.map spsA).length : Int) = (s.truths.getD k default).2.length:=by rw [List.length_map]
  have hgt : grtT (s.truths.getD k default) = (decide (8 < (s.truths.getD k default).2.length) ||(s.truths.getD k default).2.any fun r=>decide (10 < r.2.length)):=rfl
  have htr : grtT (s.truths.getD k default) = true -> s.truths.any grtT = true:=fun h=>List.any_eq_true.2 ⟨_,zk (d:=default) hlt,h⟩
  by_cases h8 : 8 < (s.truths.getD k default).2.length
  ·rw [htr (by rw [hgt,decide_eq_true h8];rfl)]
   repeat' first|(refine XIx.a ?_;conv=>whnf)|((with_reducible apply XBr.dec) <;> (intro h;first|(exfalso;omega)|((try simp only [List.length_map] at h);first|(exfalso;omega)|(conv=>whnf))))|fail
   exact XOut.bool rfl
  rw [decide_eq_false h8,Bool.false_or] at hgt
  repeat' first|(refine XIx.a ?_;conv=>whnf)|((with_reducible apply XBr.dec) <;> (intro h;first|(exfalso;omega)|((try simp only [List.length_map] at h);first|(exfalso;omega)|(conv=>whnf))))|fail
  refine Walk.loopK za [] [(37,_),(38,_),(39,_),(48,_),(49,_)] ⟨rfl,rfl,rfl,rfl,rfl,trivial⟩ (fun i : Nat=>i <= (s.truths.getD k default).2.length /\ (∀ j,j < i -> decide (10 < ((s.truths.getD k default).2.getD j default).2.length) = false)) (fun i=>[(50,natA i)]) (fun _=>[.cells (trA (s.truths.getD k default)).cells]) (fun i=>(s.truths.getD k default).2.length - i) 0 ⟨Nat.zero_le _,fun j hj=>by omega⟩ rfl ⟨rfl,trivial⟩ ?_
  rintro i ⟨hi,his⟩
  conv=>whnf
  by_cases hlt2 : i < (s.truths.getD k default).2.length
  ·have e5 : ((((s.truths.getD k default).2.getD i default).2.map sgA).length : Int) = ((s.truths.getD k default).2.getD i default).2.length:=by rw [List.length_map]
   repeat' first|((with_reducible refine XInt.a ?_);conv=>whnf)|(refine XIx.a ?_;conv=>whnf)|((with_reducible apply XBr.dec) <;> (intro h;first|(exfalso;omega)|((try simp only [List.length_map] at h);first|(exfalso;omega)|(conv=>whnf))))|fail
   ·rw [htr (by rw [hgt];exact List.any_eq_true.2 ⟨_,zk (d:=default) hlt2,decide_eq_true (by omega)⟩)]
    exact XOut.bool rfl
   ·refine zj.go (i + 1) ⟨by omega,fun j hj=>?_⟩ (by omega) rfl ⟨rfl,rfl,rfl,rfl,rfl,rfl,trivial⟩
    by_cases e : j = i
    ·subst e;exact decide_eq_false (by omega)
    ·exact his j (by omega)
  obtain rfl : i = (s.truths.getD k default).2.length:=by omega
  have q2 : grtT (s.truths.getD k default) = false:=by
   rw [hgt,List.any_eq_false]
   intro r hr
   obtain ⟨j,hj,rfl⟩:=List.mem_iff_getElem.1 hr
   have:=his j hj
   rw [List.getD_eq_getElem?_getD,List.getElem?_eq_getElem hj] at this
   simpa using this
  clear his
  repeat' first|((with_reducible refine XInt.a ?_);conv=>whnf)|((with_reducible apply XBr.dec) <;> (intro h;first|(exfalso;omega)|((try simp only [List.length_map] at h);first|(exfalso;omega)|(conv=>whnf))))|fail
  refine zl.go (k + 1) [.cells (trA (s.truths.getD k default)).cells] ⟨by omega,fun j hj=>?_⟩ (by omega) rfl ⟨rfl,rfl,rfl,trivial⟩
  by_cases e : j = k
  ·subst e;exact q2
  ·exact hs j (by omega)
 obtain rfl : k = s.truths.length:=by omega
 have q3 : s.truths.any grtT = false:=by
  rw [List.any_eq_false]
  intro r hr
  obtain ⟨j,hj,rfl⟩:=List.mem_iff_getElem.1 hr
  have:=hs j hj
  rw [List.getD_eq_getElem?_getD,List.getElem?_eq_getElem hj] at this
  simpa using this
 rw [q3]
 clear hs
 repeat' ((with_reducible apply XBr.dec) <;> (intro h;first|(exfalso;omega)|((try simp only [List.length_map] at h);first|(exfalso;omega)|(conv=>whnf))))
 exact XOut.bool rfl
theorem wV (s : Sn) (hb : SnB s) : Comp Tryz.prog 66 [snA (ownS s),snA s] (.bool true):=by
 have b1:=hb.w;have b2:=hb.k;have b3:=hb.t
 have q1:=eq_wy false s.nw s.ways (by omega)
 have q2:=zbn false s.nk s.looks b2 hb.kl
 have e1 : (((s.truths.map ownT).map trA).length : Int) = s.truths.length:=by rw [List.length_map,List.length_map]
 have e3 : ((s.truths.map trA).length : Int) = s.truths.length:=by rw [List.length_map]
 have e4 : (s.truths.map ownT).length = s.truths.length:=List.length_map _
 have d1 : (ownS s).places = s.places:=rfl
 have d2 : (ownS s).home = s.home:=rfl
 have d3 : (ownS s).bed = s.bed:=rfl
 have d4 : (ownS s).last = s.last:=rfl
 have d5 : (ownS s).truths = s.truths.map ownT:=rfl
 have d6 : ((((ownS s).truths).map trA).length : Int) = s.truths.length:=e1
 refine Comp.body (T:=tab) (res:=[.tmp 4]) za [] Tryz.func66 rfl (by kernel_rfl) Tryz.ntmps66 rfl (by simp only [List.length_cons,List.length_nil];decide) (by simp only [lowL,snL];rfl) ?_;conv=>whnf
 refine Walk.norm za [] [(2,_),(3,_)] ⟨rfl,rfl,trivial⟩ ?_
 conv=>whnf
 repeat' first|((with_reducible first|apply XBr.tt|apply XBr.ff|refine XBr.y2 fun h=>?_|refine XBr.n2 fun h=>?_|refine XBr.bne (fun h=>?_) fun h=>?_) <;> conv=>whnf) | with_reducible apply XBr.not|((first|refine zb.ret q1 ?_|refine zb.ret q2 ?_);conv=>whnf)|fail
 refine Walk.loopGK za [] [(3,_),(59,_),(60,_)] ⟨rfl,rfl,rfl,trivial⟩ (fun k : Nat=>k <= s.truths.length) (fun k=>[(61,natA k)]) (fun _=>[]) (fun k=>s.truths.length - k) 0 (Nat.zero_le _) rfl ⟨rfl,trivial⟩ ?_ (fun _ _=>Nat.le_refl _) ?_
 ·intro k _
  refine ⟨by simp,fun z hz=>?_⟩
  simp only [List.cons_append,List.nil_append,List.mem_cons,List.not_mem_nil,or_false] at hz
  rcases hz with rfl | rfl | rfl | rfl <;> first | rfl|exact yO _|exact snCL s
 intro k hk
 conv=>whnf
 by_cases hlt : k < s.truths.length
 ·have hg : (s.truths.map ownT).getD k default = ownT (s.truths.getD k default):=by
   rw [List.getD_eq_getElem?_getD,List.getD_eq_getElem?_getD,List.getElem?_map,List.getElem?_eq_getElem hlt];rfl
  have hq:=eqR_sps false (s.truths.getD k default).1 (s.truths.getD k default).2 (hb.tl _ (zk (d:=default) hlt)) (hb.sl _ (zk (d:=default) hlt))
  repeat' first|((with_reducible first|apply XBr.tt|refine XInt.a ?_|apply Chk.go|apply ChkA.go|apply ChkF.go|apply ChkB.go|apply zq.mk);conv=>whnf)|(refine XIx.a ?_;conv=>whnf)|(with_reducible first|apply XBr.not|apply XAnd.mk|exact trivial)|((with_reducible apply XBr.dec) <;> (intro h;first|(exfalso;omega)|((try simp only [List.length_map] at h);first|(exfalso;omega)|(conv=>whnf))))|(exact zg.mk rfl rfl)|(apply Walk.drawN (id:=6) za zd [] [] (hsU _) [_,_,_,_,_,_,_,_,_,_] (by kernel_rfl) rfl)|(rw [d5,hg];(refine zb.ret hq ?_);conv=>whnf)|fail
  exact zl.go (k + 1) [_] (by omega) (by omega) rfl ⟨rfl,rfl,rfl,rfl,trivial⟩
 obtain rfl : k = s.truths.length:=by omega
 repeat' ((with_reducible apply XBr.dec) <;> (intro h;first|(exfalso;omega)|((try simp only [List.length_map] at h);first|(exfalso;omega)|(conv=>whnf))))
 exact XOut.bool rfl
def tdA (t : Tru) : AV:=.sl t.1 (t.2.map spsA)
def rsC (s : Sn) : List AV:=[.int .i64 s.places,.int .i64 s.home,.int .i64 s.bed,.int .i64 s.last,.sl s.nw (s.ways.map wyA),.sl s.nk (s.looks.map rwA),.sl s.truths.isEmpty (s.truths.map tdA)]
def rsA (s : Sn) : AV:=.agg (rsC s)
theorem tdL {n : Nat} (t : Tru) : (tdA t).low n = true:=y9 _
theorem lowTd {n : Nat} (xs : List Tru) : lowL n (xs.map tdA) = true:=yr (fun _=>tdL _) xs
theorem rsCL {n : Nat} (s : Sn) : lowL n (rsC s) = true:=by
 show (true && (true && (true && (true && (lowL n (s.ways.map wyA) && (lowL n (s.looks.map rwA) && (lowL n (s.truths.map tdA) && true))))))) = true
 rw [yB,yP,lowTd];rfl
theorem rsL {n : Nat} (s : Sn) : (rsA s).low n = true:=rsCL s
theorem rsOne (s : Sn) : ∀ x ∈ rsC s,x.one = true:=by simp [rsC,AV.one]
theorem jx (s : Sn) (hb : SnB s) : Comp Tryz.prog 61 [snA s] (rsA s):=by
 have b3:=hb.t
 have e3 : ((s.truths.map trA).length : Int) = s.truths.length:=by rw [List.length_map]
 refine Comp.body (T:=tab) (res:=[.cell 2 158]) za [] Tryz.func61 rfl (by kernel_rfl) Tryz.ntmps61 rfl (by simp only [List.length_cons,List.length_nil];decide) (by simp only [lowL,snL];rfl) ?_;conv=>whnf
 skip
 refine Walk.nilcell 1 6 44 rfl rfl ?_
 refine Walk.loopGK za [] [(2,_),(3,_),(20,_),(21,_)] ⟨rfl,rfl,rfl,rfl,trivial⟩ (fun k : Nat=>k <= s.truths.length) (fun k=>[(22,natA k)]) (fun k=>[.cells [.int .i64 0,.int .i64 0,.int .i64 0,.int .i64 0,.sl true [],.sl true [],.sl true []],.cells [.int .i64 s.places,.int .i64 s.home,.int .i64 s.bed,.int .i64 s.last,.sl s.nw (s.ways.map wyA),.sl s.nk (s.looks.map rwA),.gr 2 k],.grow 44 (s.truths.take k).isEmpty ((s.truths.take k).map tdA)]) (fun k=>s.truths.length - k) 0 (Nat.zero_le _) rfl ⟨rfl,trivial⟩ ?_ (fun _ _=>(show (3 : Nat) <= 3 from Nat.le_refl 3)) ?_
 ·intro k _
  refine ⟨fun z hz=>?_,fun z hz=>?_⟩
  ·simp only [List.mem_cons,List.not_mem_nil,or_false] at hz
   rcases hz with rfl | rfl | rfl
   ·rfl
   ·show (true && (true && (true && (true && (lowL 3 (s.ways.map wyA) && (lowL 3 (s.looks.map rwA) && (true && true))))))) = true
    rw [yB,yP];rfl
   ·exact lowTd _
  ·simp only [List.cons_append,List.nil_append,List.mem_cons,List.not_mem_nil,or_false] at hz
   rcases hz with rfl | rfl | rfl | rfl | rfl <;> first | rfl|exact yO _
 intro k hk
 have hnx:=fun h=>zD (xs:=s.truths) (i:=k) h
 have hall : k = s.truths.length -> s.truths.take k = s.truths:=fun h=>by rw [h,List.take_length]
 have hkl : (s.truths.take k).length = k:=by rw [List.length_take];omega
 generalize s.truths.take k = R at hnx hall hkl
 have hRl : (R.map tdA).length = k:=by rw [List.length_map];exact hkl
 conv=>whnf
 by_cases hlt : k < s.truths.length
 ·skip
  repeat' first|((first|(with_reducible refine XInt.a ?_)|(first|refine zh.a ?_|refine XIx.a ?_));conv=>whnf)|((with_reducible apply XBr.dec) <;> (intro h;first|(exfalso;omega)|((try simp only [List.length_map] at h);first|(exfalso;omega)|(conv=>whnf))))|fail
  refine zl.go (k + 1) [.cells (trA (s.truths.getD k default)).cells] (by omega) (by omega) ?_ ⟨rfl,rfl,rfl,rfl,rfl,trivial⟩
  show [Blk.cells _,Blk.cells _,Blk.grow _ (s.truths.take (k + 1)).isEmpty ((s.truths.take (k + 1)).map tdA)] ++ _ = _
  rw [hnx hlt,zy,List.map_append];rfl
 obtain rfl : k = s.truths.length:=by omega
 have hR:=hall rfl
 repeat' ((with_reducible apply XBr.dec) <;> (intro h;first|(exfalso;omega)|((try simp only [List.length_map] at h);first|(exfalso;omega)|(conv=>whnf))))
 rw [hR] at hRl ⊢
 exact ⟨Froz.agg (rs':=rsC s) (rsOne s) (.cons (.low rfl) (.cons (.low rfl) (.cons (.low rfl) (.cons (.low rfl) (.cons (.low (yB _)) (.cons (.low (yP _)) (.cons (Froz.grow rfl hRl (lowTd _)) .nil)))))))⟩
def owT (t : Tru) : AV:=.sl false ((t.2.map ownP).map spsA)
theorem owTL {n : Nat} (t : Tru) : (owT t).low n = true:=y9 _
def owE (s : Sn) (k : Nat) : List AV:=(s.truths.take k).map owT ++ (s.truths.drop k).map trA
theorem owE_len (s : Sn) {k : Nat} (hk : k <= s.truths.length) : (owE s k).length = s.truths.length:=by unfold owE;rw [List.length_append,List.length_map,List.length_map,List.length_take,List.length_drop];omega
theorem owE_low {n : Nat} (s : Sn) (k : Nat) : lowL n (owE s k) = true:=jC (yr (fun _=>owTL _) _) (yO _)
theorem owE_set (s : Sn) {k : Nat} (hk : k < s.truths.length) : (owE s k).set k (owT (s.truths.getD k default)) = owE s (k + 1):=by
 unfold owE
 have hl : ((s.truths.take k).map owT).length = k:=by rw [List.length_map,List.length_take];omega
 rw [List.set_append_right _ _ (by omega),hl,Nat.sub_self,kj hk,List.map_cons,List.set_cons_zero,zD hk,List.map_append,List.append_assoc];rfl
def ow (s : Sn) (els : List AV) : List Blk:=[.cells [.int .i64 s.places,.int .i64 s.home,.int .i64 s.bed,.int .i64 s.last,.sl false (s.ways.map wyA),.sl false ((s.looks.map ownR).map rwA),.gr 2 s.truths.length],.cells [.int .i64 0,.int .i64 0,.int .i64 0,.int .i64 0,.sl true [],.sl true [],.sl true []],.grow 46 false els]
theorem qt (s : Sn) (hb : SnB s) : Comp Tryz.prog 60 [snA s] (snA (ownS s)):=by
 have b1:=hb.w;have b2:=hb.k;have b3:=hb.t
 have q1:=dup_wy s.nw s.ways (by omega)
 have q2:=fy s.nk s.looks b2 hb.kl
 have e3 : ((s.truths.map trA).length : Int) = s.truths.length:=by rw [List.length_map]
 refine Comp.body (T:=tab) (res:=[.cell 2 27]) za [1] Tryz.func60 rfl (by kernel_rfl) Tryz.ntmps60 rfl (by simp only [List.length_cons,List.length_nil];decide) (by simp only [lowL,snL];rfl) ?_;conv=>whnf
 skip
 apply Walk.drawX za zd [1] [8,10,12,14] (hsC [_,_,_,_,ow s (s.truths.map trA)]) [_,_,_,_,_,_,_,_,.gr 2 s.truths.length,_,_,_,_,_,_] (by kernel_rfl) rfl
 ·skip
  repeat' first|((with_reducible first|apply Chk.go|apply ChkA.go);conv=>whnf)|(with_reducible first|apply XAnd.mk|exact trivial)|(exact zg.mk rfl rfl)|((first|refine zb.ret q1 ?_|refine zb.ret q2 ?_|refine zb.dupTr (by omega) ?_);conv=>whnf)|fail
 ·skip
  repeat' first|((with_reducible first|apply Chk.go|apply ChkF.go|apply ChkB.go);conv=>whnf)|(with_reducible first|apply XAnd.mk|exact trivial)|(exact zg.mk rfl rfl)|((refine zb.ret q1 ?_);conv=>whnf)|fail
 conv=>whnf
 repeat' (refine zh.a ?_;conv=>whnf)
 refine Walk.loopGK za [] [(1,_),(2,_),(18,_),(19,_)] ⟨rfl,rfl,rfl,rfl,trivial⟩ (fun k : Nat=>k <= s.truths.length) (fun k=>[(20,natA k)]) (fun k=>ow s (owE s k)) (fun k=>s.truths.length - k) 0 (Nat.zero_le _) rfl ⟨rfl,trivial⟩ ?_ (fun _ _=>(show (3 : Nat) <= 3 from Nat.le_refl 3)) ?_
 ·intro k _
  refine ⟨fun z hz=>?_,fun z hz=>?_⟩
  ·simp only [ow,List.mem_cons,List.not_mem_nil,or_false] at hz
   rcases hz with rfl | rfl | rfl
   ·show (true && (true && (true && (true && (lowL 3 (s.ways.map wyA) && (lowL 3 ((s.looks.map ownR).map rwA) && (true && true))))))) = true
    rw [yB,yP];rfl
   ·rfl
   ·exact owE_low s k
  ·simp only [List.cons_append,List.nil_append,List.mem_cons,List.not_mem_nil,or_false] at hz
   rcases hz with rfl | rfl | rfl | rfl | rfl <;> first | rfl|exact yO _
 intro k hk
 have hel:=owE_len s hk
 conv=>whnf
 by_cases hlt : k < s.truths.length
 ·have hget : (owE s k).getD (k : Int).toNat default = trA (s.truths.getD k default):=by
   rw [Int.toNat_natCast]
   unfold owE
   have hl : ((s.truths.take k).map owT).length = k:=by rw [List.length_map,List.length_take];omega
   rw [List.getD_eq_getElem?_getD,List.getElem?_append_right (by omega),hl,Nat.sub_self,kj hlt];rfl
  have hq:=zcc (s.truths.getD k default).1 (s.truths.getD k default).2 (hb.tl _ (zk (d:=default) hlt)) (hb.sl _ (zk (d:=default) hlt))
  repeat' first|((with_reducible first|refine XInt.a ?_|apply Chk.go|apply ChkA.go|apply ChkF.go|apply ChkB.go|apply zq.mk);conv=>whnf)|(with_reducible first|apply XAnd.mk|exact trivial)|((with_reducible apply XBr.dec) <;> (intro h;first|(exfalso;omega)|((try simp only [List.length_map] at h);first|(exfalso;omega)|(conv=>whnf))))|(exact zg.mk rfl rfl)|(apply Walk.drawN (id:=5) za zd [1] [8] (hsC [_,_]) [_,_,_,_,_,_,_,_,_] (by kernel_rfl) rfl)|((first|(first|refine zh.mk ⟨hel,rfl,by omega,by omega⟩ ?_|refine zh.mk ⟨owE_len s (show k + 1 <= s.truths.length by omega),rfl,by omega,by omega⟩ ?_)|((refine XGet.mk hel.symm (by omega) ?_);rw [hget])|(refine zb.ret hq ?_)|((refine XPut.mk hel.symm (by omega) ?_);rw [show (owE s k).set (k : Int).toNat (AV.sl false (((s.truths.getD k default).2.map ownP).map spsA)) = owE s (k + 1) from owE_set s hlt]));conv=>whnf)|fail
  exact zl.go (k + 1) [_] (by omega) (by omega) rfl ⟨rfl,rfl,rfl,rfl,rfl,trivial⟩
 obtain rfl : k = s.truths.length:=by omega
 have hfin : owE s s.truths.length = s.truths.map owT:=by unfold owE;rw [List.take_length,List.drop_length];simp
 rw [hfin]
 repeat' ((with_reducible apply XBr.dec) <;> (intro h;first|(exfalso;omega)|((try simp only [List.length_map] at h);first|(exfalso;omega)|(conv=>whnf))))
 refine ⟨Froz.agg (rs':=snC (ownS s)) (gZ _) (.cons (.low rfl) (.cons (.low rfl) (.cons (.low rfl) (.cons (.low rfl) (.cons (.low (yB _)) (.cons (.low (yP _)) (.cons ?_ .nil)))))))⟩
 have hfl : flat ((s.truths.map ownT).map trA) = flat (s.truths.map owT):=by
  unfold flat
  rw [List.map_map,List.flatMap_map,List.flatMap_map];rfl
 refine Froz.gr (i:=2) (els:=s.truths.map owT) (nl:=false) (els':=(s.truths.map ownT).map trA) rfl (List.length_map _) (by simp only [List.length_map]) (fun e he=>?_) (fun e he=>?_) (by rw [hfl];exact .low (by
  have : flat (s.truths.map owT) = s.truths.map owT:=zV fun e he=>by obtain ⟨t,-,rfl⟩:=List.mem_map.1 he;rfl
  rw [this];exact yr (fun _=>owTL _) _))
 ·obtain ⟨t,-,rfl⟩:=List.mem_map.1 he
  show 1 = sz Tryz.prog 46
  kernel_rfl
 ·rw [hfl] at he
  have : flat (s.truths.map owT) = s.truths.map owT:=zV fun e he=>by obtain ⟨t,-,rfl⟩:=List.mem_map.1 he;rfl
  rw [this] at he
  obtain ⟨t,-,rfl⟩:=List.mem_map.1 he;rfl
end GA
end
