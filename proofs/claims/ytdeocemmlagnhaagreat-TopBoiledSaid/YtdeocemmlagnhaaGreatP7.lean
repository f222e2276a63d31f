/- Part 7 of a proof: T12, T13. -/
import Derived.Test.YtdeocemmlagnhaaGreatP6
set_option linter.unusedVariables false
set_option linter.unusedSimpArgs false
set_option maxRecDepth 8000
section
namespace GA
open Go Go.RowKit Go.Proofs
theorem vg {nx : Nat -> Int} {lies : Nat} (hn : ∀ q,-1 <= nx q) : ∀ r,yj nx lies r ≠ -1 -> ∃ q,q < r /\ nx (lies - q) ≠ -1 /\ (q : Int) + nx (lies - q) = yj nx lies r
 | 0,h=>absurd rfl h
 | r + 1,h=>by
   have e : yj nx lies (r + 1) = if nx (lies - r) = -1 then yj nx lies r else max (yj nx lies r) (r + nx (lies - r)):=rfl
   by_cases hr : nx (lies - r) = -1
   ·rw [if_pos hr] at e
    rw [e] at h ⊢
    obtain ⟨q,h1,h2,h3⟩:=vg hn r h
    exact ⟨q,by omega,h2,h3⟩
   ·rw [if_neg hr] at e
    rw [e] at h ⊢
    have:=hn (lies - r)
    by_cases hm : yj nx lies r <= r + nx (lies - r)
    ·exact ⟨r,by omega,hr,by omega⟩
    ·obtain ⟨q,h1,h2,h3⟩:=vg (lies:=lies) hn r (by omega)
     exact ⟨q,by omega,h2,by omega⟩
theorem gR {b : Bd} (o : BedOk b) (share : Int) : ∀ k,k <= b.months.length -> ∀ a,valM b share k a ≠ -1 -> (yk b share k a).length = k
 | 0,_,a,_=>rfl
 | k + 1,hk,a,h=>by
   have ih:=gR o share k (by omega)
   have hvb:=gx o share k (by omega)
   have e : valM b share (k + 1) a = yj (valM b share k) (lieR b (b.months.length - (k + 1)) a).toNat ((lieR b (b.months.length - (k + 1)) a).toNat + 1):=rfl
   obtain ⟨q,h1,h2,h3⟩:=vg (fun q=>(hvb q).1) _ (e ▸ h)
   unfold yk
   split
   ·rename_i r hr
    have hs:=List.find?_some hr
    unfold kz at hs
    rw [Bool.and_eq_true,bne_iff_ne] at hs
    rw [List.length_cons,ih _ hs.1]
   ·rename_i hr
    have:=List.find?_eq_none.1 hr q (List.mem_range.2 h1)
    refine absurd ?_ this
    unfold kz
    rw [Bool.and_eq_true,bne_iff_ne,beq_iff_eq]
    exact ⟨h2,by rw [h3,e]⟩
theorem gh {b : Bd} (o : BedOk b) (share : Int) : ∀ k,k <= b.months.length -> ∀ a,(∀ x ∈ yk b share k a,0 <= x /\ x <= b.room) /\ (yk b share k a).length <= k
 | 0,_,a=>⟨by simp [yk],Nat.le_refl _⟩
 | k + 1,hk,a=>by
   have hl:=qM o (j:=b.months.length - (k + 1)) (n:=a) (by have:=o.m1;omega)
   unfold yk
   split
   ·rename_i r hr
    have hm:=List.mem_range.1 (List.mem_of_find?_eq_some hr)
    have ih:=gh o share k (by omega) ((lieR b (b.months.length - (k + 1)) a).toNat - r)
    refine ⟨fun x hx=>?_,by simp only [List.length_cons];omega⟩
    rcases List.mem_cons.1 hx with rfl | hx
    ·omega
    ·exact ih.1 x hx
   ·have ih:=gh o share k (by omega) a
    exact ⟨ih.1,by omega⟩
theorem zaU (hh : Hu) (ok : HuOk hh) (i : Nat) (o : kV hh i) : Comp Tryz.prog 50 [huA hh] (.tup [bpA hh i,.int .i64 0]):=by
 have ho:=yT hh ok
 have hp:=kX hh ok i o
 refine Comp.body (T:=tab) (res:=[.tmp 2,.tmp 3]) za [] Tryz.func50 rfl (by kernel_rfl) Tryz.ntmps50 rfl (by simp only [List.length_cons,List.length_nil];decide) (by simp only [lowL,huL];rfl) ?_;conv=>whnf
 repeat' first|((with_reducible first|refine XBr.y2 fun h=>?_|refine XBr.n2 fun h=>?_|refine XBr.bne (fun h=>?_) fun h=>?_) <;> conv=>whnf)|((first|refine zf.ret ho ?_|refine zf.ret hp ?_);conv=>whnf)|fail
 exact ⟨.low (by simp only [pack,AV.low,lowL];unfold bpA;simp only [AV.low,bpA_low];rfl)⟩
theorem trF_w0 (n : Nat) : (trF w0 n).length = n:=by
 unfold trF
 rw [List.filter_eq_self.2 (fun a _=>(rfl : (!w0 a) = true)),List.length_range]
theorem bo_all (hh : Hu) (ok : HuOk hh) (i : Nat) (o : kV hh i) : ∃ (nl : Bool) (fl : List Nat) (G : Nat -> Bool),fl.length = (bpL hh i).length /\ fl.length <= 1 /\ hh.ws.length <= (trF G hh.ws.length).length + 2 /\
  Comp Tryz.prog 49 [huA hh] (.tup [.sl nl (k7 fl),.int .i64 0]) /\ Comp Tryz.prog 51 [huA hh] (.tup [trA G hh.ws.length,.int .i64 0]):=by
 cases hf : fstB hh i with
 | none =>
   have hno : ∀ a b,hcI hh a b = false:=fun a b=>by
    rw [<- Bool.not_eq_true]
    intro e
    obtain ⟨rfl,-⟩:=o a b e
    rw [fstB_none hf b] at e;cases e
   refine ⟨true,[],w0,?_,by simp,by rw [trF_w0];omega,vT hh ok hno,fM hh ok hno⟩
   unfold bpL;rw [hf];rfl
 | some b =>
   obtain ⟨n0,h0⟩:=fV hh ok i b o hf
   refine ⟨false,[n0],dbt hh hh.ws.length,?_,by simp,?_,h0,gG hh ok i b o hf⟩
   ·unfold bpL;rw [hf];rfl
   ·have:=trust_len o (kk hf).1
    have e : ((List.range hh.ws.length).filter fun n=>!yv hh n) = trF (dbt hh hh.ws.length) hh.ws.length:=by
     unfold trF
     refine List.filter_congr fun n hn=>?_
     unfold dbt
     rw [decide_eq_true (List.mem_range.1 hn)];rfl
    rw [e] at this;exact this
def wgH (plan : List Int) (lost part peak : Int) : Hu:=⟨((ints plan).length : Int),peak,(wgK plan lost part plan.length).isEmpty,wgK plan lost part plan.length⟩
def frW (w : Wg) : Wg:=⟨w.m,w.sl,w.sh,2 * w.mh + 1,2 * w.mh + 2⟩
def frH (hh : Hu) (i : Nat) : Hu:=⟨hh.months,hh.peak,hh.nw,hh.ws.set i (frW (wsG hh i))⟩
structure WgR (r n : Int) (w : Wg) : Prop where
 m : 0 <= w.m /\ w.m < n
 u : UpR r w
 l : LoR r w
 s : w.sh <= 100
 t : 1 <= w.ml /\ w.ml <= w.mh /\ w.mh <= 70
theorem wgH_r {plan : List Int} {lost part peak : Int} (hp : ∀ x ∈ plan,0 <= x /\ x <= 100) (h1 : 0 <= lost /\ lost <= 90) (h2 : 10 <= part /\ part <= 69) : ∀ w ∈ (wgH plan lost part peak).ws,WgR part ((ints plan).length : Int) w:=by
 intro w hw
 obtain ⟨m,hm,rfl,h3,h4⟩:=wgK_mem (n:=plan.length) hw
 have hx:=hp _ (zn (d:=default) hm)
 have hb:=wgt_b (n:=plan.getD m default) (lost:=lost) (part:=part) hx.1 hx.2 h1.1 h1.2 h2.1 h2.2
 have e1 : ((ints plan).length : Int) = plan.length:=by rw [jI]
 have hpos : 0 < wgtZ (plan.getD m default) lost:=hb.2.2.1.2.2 h3
 refine ⟨⟨?_,?_⟩,⟨hpos,rfl,?_⟩,⟨hpos,rfl,?_⟩,?_,?_,?_,?_⟩
 ·show (0 : Int) <= m;omega
 ·show (m : Int) < _;omega
 ·exact hb.2.2.2.2.2.1
 ·exact hb.2.2.2.2.2.2
 ·show wgtZ (plan.getD m default) lost <= 100;omega
 ·show 1 <= meaZ (plan.getD m default) lost part;omega
 ·show meaZ (plan.getD m default) lost part <= meaZ (plan.getD m default) lost part + 1;omega
 ·show meaZ (plan.getD m default) lost part + 1 <= 70;omega
theorem hu_ok {r n peak : Int} {nw : Bool} {ws : List Wg} (hn : 1 <= n /\ n <= 12) (hp : 0 <= peak /\ peak < n) (hw : ws.length <= 14) (h : ∀ w ∈ ws,WgR r n w) : HuOk ⟨n,peak,nw,ws⟩ where
 m1:=hn.1
 m2:=hn.2
 w1:=hw
 p1:=hp.1
 p2:=hp.2
 mo:=fun w hm=>(h w hm).m
 s:=fun w hm=>by have q:=h w hm;have:=q.u.1;have:=q.u.2.1;have:=q.s;exact ⟨by omega,by omega,by omega⟩
 t:=fun w hm=>by have q:=(h w hm).t;exact ⟨by omega,by omega,by omega⟩
theorem frW_t {r n : Int} {w : Wg} (h : WgR r n w) : LoR r (frW w) /\ 1 <= (frW w).ml /\ (frW w).ml <= (frW w).mh /\ (frW w).mh <= 1000:=by
 have q:=h.t
 have l:=h.l
 refine ⟨⟨l.1,l.2.1,?_⟩,?_,?_,?_⟩
 ·have:=l.2.2
  show w.sl * r < 100 * (2 * w.mh + 2);omega
 ·show 1 <= 2 * w.mh + 1;omega
 ·show 2 * w.mh + 1 <= 2 * w.mh + 2;omega
 ·show 2 * w.mh + 2 <= 1000;omega
theorem qe {hh : Hu} {i : Nat} {w : Wg} (h : w ∈ (frH hh i).ws) : w ∈ hh.ws \/ w = frW (wsG hh i):=by
 rcases List.mem_or_eq_of_mem_set h with h | h
 ·exact .inl h
 ·exact .inr h
theorem frH_ok {r : Int} {hh : Hu} {i : Nat} (ok : HuOk hh) (h : ∀ w ∈ hh.ws,WgR r hh.months w) (hi : i < hh.ws.length) : HuOk (frH hh i) where
 m1:=ok.m1
 m2:=ok.m2
 w1:=by show (hh.ws.set i _).length <= 14;rw [List.length_set];exact ok.w1
 p1:=ok.p1
 p2:=ok.p2
 mo:=fun w hm=>by
  rcases qe hm with hm | rfl
  ·exact ok.mo w hm
  ·exact ok.mo (wsG hh i) (zn hi)
 s:=fun w hm=>by
  rcases qe hm with hm | rfl
  ·exact ok.s w hm
  ·exact ok.s (wsG hh i) (zn hi)
 t:=fun w hm=>by
  rcases qe hm with hm | rfl
  ·exact ok.t w hm
  ·exact (frW_t (h _ (zn hi))).2
theorem frH_at {hh : Hu} {i a : Nat} (ha : a ≠ i) : wsG (frH hh i) a = wsG hh a:=by
 show (hh.ws.set i (frW (wsG hh i))).getD a default = hh.ws.getD a default
 rw [qE,if_neg (fun q=>ha q.1.symm)]
theorem frH_up {r : Int} {hh : Hu} {i : Nat} (ok : HuOk hh) (h : ∀ w ∈ hh.ws,WgR r hh.months w) (hi : i < hh.ws.length) : kV (frH hh i) i:=by
 have ok2:=frH_ok ok h hi
 have hl : (frH hh i).ws.length = hh.ws.length:=List.length_set
 refine one_up (r:=r) (fun a ha hne=>?_) (fun w hw=>?_) (fun h2=>(ok2.t _ (zn h2)).2.1)
 ·rw [frH_at hne]
  exact (h _ (zn (d:=default) (by omega))).u
 ·rcases qe hw with hw | rfl
  ·exact (h w hw).l
  ·exact (frW_t (h _ (zn hi))).1
theorem less_no {r : Int} {hh : Hu} {i : Nat} (h : ∀ w ∈ hh.ws,WgR r hh.months w) (a b : Nat) : hcI (wP (frH hh i) i) a b = false:=by
 have hm : ∀ w ∈ (wP (frH hh i) i).ws,WgR r hh.months w:=fun w hw=>by
  obtain ⟨a,ha,hne,rfl⟩:=fP hw
  have e : (frH hh i).ws.getD a default = hh.ws.getD a default:=frH_at hne
  have hl : (frH hh i).ws.length = hh.ws.length:=List.length_set
  rw [e]
  exact h _ (zn (d:=default) (by omega))
 exact fg (r:=r) (fun w hw=>(hm w hw).u) (fun w hw=>(hm w hw).l) a b
theorem less_ok {hh : Hu} {i : Nat} (ok : HuOk hh) : HuOk (wP hh i):=by
 have hm : ∀ w ∈ (wP hh i).ws,w ∈ hh.ws:=fun w hw=>by
  obtain ⟨a,ha,hne,rfl⟩:=fP hw
  exact zn (d:=default) ha
 exact ⟨ok.m1,ok.m2,Nat.le_trans (zaa _ _ _) ok.w1,ok.p1,ok.p2,fun w hw=>ok.mo w (hm w hw),fun w hw=>ok.s w (hm w hw),fun w hw=>ok.t w (hm w hw)⟩
end GA
end
section
namespace GA
open Go Go.RowKit Go.Proofs
def wsl (ws : List Wg) (i : Nat) : Wg:=ws.getD i default
theorem XInt.at {z : Int} {i : Nat} {k : AV -> Prop} (h : z = (i : Int)) (h2 : i <= 100000) (hk : k (natA i)) : XInt .i64 z k:=by
 subst h;exact XInt.i64 (by omega) (by omega) hk
theorem zP.wg {ws : List Wg} {n i : Nat} {a b : Int} {k : List AV -> Prop} (hn : n = ws.length) (hi : i < ws.length) (hk : k ((ws.set i ⟨(wsl ws i).m,(wsl ws i).sl,(wsl ws i).sh,a,b⟩).map wgA)) : zP (ws.map wgA) n i 3 5 [.int .i64 a,.int .i64 b] k:=by
 have e : (ws.map wgA).getD i default = wgA (wsl ws i):=by
  rw [List.getD_eq_getElem?_getD,List.getElem?_map]
  unfold wsl
  rw [List.getD_eq_getElem?_getD,List.getElem?_eq_getElem hi];rfl
 refine ⟨by rw [List.length_map];exact hn,by rw [hn];exact hi,Nat.le_refl 5,by rw [e];rfl,?_⟩
 rw [e]
 rw [List.map_set] at hk
 exact hk
theorem zf.weiAt {nl : Bool} {plan : List Int} {lost part : Int} {H : List Blk} {k : AV -> List Blk -> Prop} (i : Nat) (hi : lget H i = some .free) (hp : ∀ x ∈ plan,0 <= x /\ x <= 100) (hl : plan.length <= 12) (h1 : 0 <= lost /\ lost <= 90) (h2 : 10 <= part /\ part <= 69)
  (hk : k (.gr i (wgK plan lost part plan.length).length) (H.set i (wgB (wgK plan lost part plan.length)))) : zf Tryz.prog 48 [.sl nl (ints plan),.int .i64 lost,.int .i64 part] H k:=by
 refine zf.giveAt i hi (za9 nl plan lost part hp hl h1 h2) ?_
 rw [ren_wg];exact hk
theorem zf.args {P : Program} {f : FuncId} {rs : List AV} {k : AV -> List Blk -> Prop} {H : List Blk} (rs' : List AV) (h : rs' = rs) (x : zf P f rs' H k) : zf P f rs H k:=h ▸ x
theorem bpL_cases (hh : Hu) (i : Nat) : bpL hh i = [] \/ ∃ b,bpL hh i = [(i,b)]:=by
 unfold bpL
 cases fstB hh i with
 | none=>exact .inl rfl
 | some b=>exact .inr ⟨b,rfl⟩
set_option maxHeartbeats 4000000 in
theorem zaT (n1 : Bool) (xs : List Int) (p q r : Int) (hx : xs.length < 9223372036854775808) (hp : 0 <= p /\ p <= 255) (hq : 0 <= q /\ q <= 255) (hr : 0 <= r /\ r <= 255) :
  Comp Tryz.prog 6 [.sl n1 (bytes xs),.int .u8 p,.int .u8 q,.int .u8 r] (.bool true):=by
 have uo:=hp0_ok (nl:=n1) hx
 have mo:=bedMade_c (hp0 n1 xs) 100 6 uo (by omega) (by omega) (by omega) (by omega)
 have bo:=madeB_ok uo (room:=100) (months:=6) (by omega) (by omega) (by omega) (by omega)
 have bs : (yJ (hp0 n1 xs) 100 6).surveys = []:=rfl
 have br : (yJ (hp0 n1 xs) 100 6).room <= 100:=by
  have:=zp (hp0 n1 xs) (100 - 2)
  show zy _ _ <= 100
  unfold zy;omega
 have bm : (yJ (hp0 n1 xs) 100 6).months.length <= 6 /\ 1 <= (yJ (hp0 n1 xs) 100 6).months.length:=by
  have e:=qj (fN uo (show (2 : Int) <= 100 by omega)) (yo (hp0 n1 xs) 6).toNat
  have g4:=zp (mdH (hp0 n1 xs)) (6 - 1)
  have:=e.ml
  show (mdBK _ _ _).ms.length <= 6 /\ 1 <= (mdBK _ _ _).ms.length
  rw [this];unfold yo;omega
 generalize yJ (hp0 n1 xs) 100 6 = b at mo bo bs br bm
 generalize mdE (hp0 n1 xs) 100 6 = E at mo
 obtain ⟨ems,enow,ere,ech,u1⟩:=E
 dsimp only at mo
 have hE:=(bedE_ok b bs).2 bo
 have r1:=bo.r1
 have hsh : 0 <= p.tmod (b.room + 1) /\ p.tmod (b.room + 1) <= b.room:=by
  rw [Int.tmod_eq_emod_of_nonneg hp.1]
  have:=Int.emod_nonneg p (show b.room + 1 ≠ 0 by omega)
  have:=Int.emod_lt_of_pos p (show 0 < b.room + 1 by omega)
  omega
 have hlo : 0 <= q.tmod 91 /\ q.tmod 91 <= 90:=by
  rw [Int.tmod_eq_emod_of_nonneg hq.1];omega
 have hpa : 10 <= 10 + r.tmod 60 /\ 10 + r.tmod 60 <= 69:=by
  rw [Int.tmod_eq_emod_of_nonneg hr.1];omega
 have hmo:=most_c b (p.tmod (b.room + 1)) hE bs hsh
 have hpl:=gh bo (p.tmod (b.room + 1)) b.months.length (Nat.le_refl _) (zS b).toNat
 have hln:=gR bo (p.tmod (b.room + 1)) b.months.length (Nat.le_refl _) (zS b).toNat
 unfold mostA at hmo
 generalize yk b (p.tmod (b.room + 1)) b.months.length (zS b).toNat = plan at hmo hpl hln
 have hae:=awake08_c
 refine Comp.body' (T:=tab) (res:=[.tmp 8]) za [] Tryz.func6 rfl (by kernel_rfl) Tryz.ntmps6 rfl (by simp only [List.length_cons,List.length_nil];decide) (by simp only [lowL,AV.low,lowBy];rfl) ?_;conv=>whnf
 repeat' first|(refine zf.inl (T:=tab) (res:=[.tmp 2]) za [5] Tryz.func33 rfl (by kernel_rfl) Tryz.ntmps33 rfl (by simp only [List.length_append,List.length_cons,List.length_nil];decide) ?_;conv=>whnf)|((refine zf.hp (j:=0) mo (by simp only [AV.low,lowL,bedL,lowI,vP];rfl) rfl ?_);conv=>whnf)|fail
 by_cases hv : valM b (p.tmod (b.room + 1)) b.months.length (zS b).toNat = -1
 ·rw [if_pos hv] at hmo
  repeat' first|((first|refine zf.ret hmo ?_|refine zf.ret hae ?_);conv=>whnf)|((with_reducible first|apply XBr.tt|refine XBr.y1 fun h=>?_|refine XBr.n1 fun h=>?_|refine XBr.beq (fun h=>?_) fun h=>?_|refine XBr.y2 fun h=>?_|refine XBr.n2 fun h=>?_|refine XBr.bne (fun h=>?_) fun h=>?_|refine XInt.a ?_|apply Chk.go|apply ChkA.go|apply ChkF.go|apply ChkB.go|apply kC.mk) <;> conv=>whnf)|(refine zj.a ?_;conv=>whnf)|(with_reducible first|apply XAnd.mk|exact trivial)|(exact zm.mk rfl rfl)|(apply Walk.drawN (id:=2) za zi [] [] (hsU _) [_,_,_,_,_,_,_,_,_,_,_,_,_] (by kernel_rfl) rfl)|fail
  exact XOut.bool rfl
 rw [if_neg hv] at hmo
 have hpn:=hln hv
 have hpx : ∀ x ∈ plan,0 <= x /\ x <= b.room:=hpl.1
 have hp1 : ∀ x ∈ plan,0 <= x /\ x <= 100:=fun x hx=>⟨(hpx x hx).1,by have:=(hpx x hx).2;omega⟩
 have e5 : ((ints plan).length : Int) = plan.length:=by rw [List.length_map]
 have e6 : ((b.months.map moA).length : Int) = b.months.length:=by rw [List.length_map]
 repeat' first|((refine zf.ret hmo ?_);conv=>whnf)|((with_reducible first|refine XBr.y2 fun h=>?_|refine XBr.n2 fun h=>?_|refine XBr.bne (fun h=>?_) fun h=>?_|refine XInt.a ?_|apply Chk.go|apply ChkA.go|apply ChkF.go|apply ChkB.go|apply kC.mk) <;> conv=>whnf)|(refine zj.a ?_;conv=>whnf)|(with_reducible first|apply XAnd.mk|exact trivial)|(exact zm.mk rfl rfl)|(apply Walk.drawN (id:=2) za zi [] [] (hsU _) [_,_,_,_,_,_,_,_,_,_,_,_,_] (by kernel_rfl) rfl)|fail
 clear hmo hv hsh hln hpl
 generalize 10 + r.tmod 60 = part at *
 generalize q.tmod 91 = lost at *
 refine Walk.nilcell 2 2 69 rfl rfl ?_
 refine Walk.loopK za [] [(1,_),(3,_),(9,_),(12,_),(14,_),(15,_),(16,_),(76,_),(77,_)] ⟨rfl,rfl,rfl,rfl,rfl,rfl,rfl,rfl,rfl,trivial⟩ (fun k : Nat=>k <= plan.length) (fun k=>[(78,natA k)])
  (fun k=>[hpC u1,.cells (bedC b),.cells [.int .i64 100,.int .i64 lost,.gr 3 (saK plan k).length,.sl true [],.sl true []],.grow 69 (saK plan k).isEmpty ((saK plan k).map skA)]) (fun k=>plan.length - k) 0 (Nat.zero_le _) rfl ⟨rfl,trivial⟩ ?_
 intro k hk
 have hsk:=saK_ok hp1 k hk
 have knx : saK plan (k + 1) = saK plan k ++ if 0 < plan.getD k default then [⟨plan.getD k default,(k : Int).tmod 6⟩] else []:=rfl
 have ksl : ((saK plan k).map skA).length = (saK plan k).length:=List.length_map _
 conv=>whnf
 by_cases hlt : k < plan.length
 ·have kx:=hpx _ (zn (xs:=plan) (i:=k) (d:=default) hlt)
  by_cases hc : 0 < plan.getD k default
  ·rw [if_pos hc] at knx
   repeat' first|((refine zj.mk ⟨rfl,ksl,by unfold Room;constructor <;> ((try simp) <;> omega)⟩ ?_);conv=>whnf)|((with_reducible first|apply XBr.ff|refine XBr.y fun h=>?_|refine XBr.n fun h=>?_|refine XBr.dec (fun h=>?_) fun h=>?_|refine XInt.a ?_) <;> conv=>whnf)|((first|refine zj.a ?_|refine XIx.a ?_);conv=>whnf)|fail
   all_goals first|(exfalso;omega) | skip
   refine zu.go (k + 1) (by omega) (by omega) ?_ ⟨rfl,rfl,rfl,rfl,rfl,rfl,rfl,rfl,rfl,rfl,trivial⟩
   rw [knx,List.map_append,zO,List.length_append];rfl
  ·rw [if_neg hc,List.append_nil] at knx
   repeat' first|((with_reducible first|apply XBr.ff|refine XBr.y fun h=>?_|refine XBr.n fun h=>?_|refine XBr.dec (fun h=>?_) fun h=>?_|refine XInt.a ?_) <;> conv=>whnf)|(refine XIx.a ?_;conv=>whnf)|fail
   all_goals first|(exfalso;omega) | skip
   exact zu.go (k + 1) (by omega) (by omega) (by rw [knx]) ⟨rfl,rfl,rfl,rfl,rfl,rfl,rfl,rfl,rfl,rfl,trivial⟩
 obtain rfl : k = plan.length:=by omega
 have lo:=saL_ok (lost:=lost) hlo.1 hlo.2 (by omega) hsk.2
 have lw : LdW (saL lost (saK plan plan.length)):=⟨fun _=>rfl,by have:=lo.n;omega,Nat.zero_le _,Nat.zero_le _⟩
 have hpar:=fp _ lw ((gY _).2 lo)
 have hpt:=zbc (saL lost (saK plan plan.length)) hp1 hlo.1 (fun n o hn=>sa_weight lost _ o hn hlo.1) plan.length (Nat.le_refl _) (by omega)
 have hpe : jL (saL lost (saK plan plan.length)) = (saK plan plan.length).foldl (zJ (saL lost (saK plan plan.length))) (List.replicate 6 0):=rfl
 rw [<- hpe] at hpt
 generalize jL (saL lost (saK plan plan.length)) = ps at hpar hpt
 generalize saK plan plan.length = ss at *
 have e7 : ((ints ps).length : Int) = 6:=by rw [List.length_map];omega
 clear knx hpe
 repeat' first|((refine zf.freezeCell 2 2 3 ss.length (t:=69) (nl:=ss.isEmpty) (els:=ss.map skA) rfl rfl rfl (by rw [List.length_map]) (.agg (cs':=ldC (saL lost ss)) (by intro x hx;simp only [ldC,List.mem_cons,List.not_mem_nil,or_false] at hx;rcases hx with rfl | rfl | rfl | rfl | rfl <;> rfl) (.same (.same (.gr (.same (.same .nil))))) .nil) ?_);(refine zf.ret hpar ?_);conv=>whnf)|((with_reducible first|apply XBr.ff|refine XBr.y fun h=>?_|refine XBr.n fun h=>?_|refine XBr.dec (fun h=>?_) fun h=>?_|refine XBr.y2 fun h=>?_|refine XBr.n2 fun h=>?_|refine XBr.bne (fun h=>?_) fun h=>?_) <;> conv=>whnf)|fail
 refine Walk.loopK za [] [(1,_),(3,_),(12,_),(14,_),(15,_),(19,_),(115,_),(116,_)] ⟨rfl,rfl,rfl,rfl,rfl,rfl,rfl,rfl,trivial⟩ (fun k : Nat=>k <= plan.length) (fun k=>[(117,natA k)])
  (fun k=>[hpC u1,.cells (bedC b),.cells (ldC (saL lost ss)),.dead]) (fun k=>plan.length - k) 0 (Nat.zero_le _) rfl ⟨rfl,trivial⟩ ?_
 intro k hk
 conv=>whnf
 by_cases hlt : k < plan.length
 ·have kx:=hpx _ (zn (xs:=plan) (i:=k) (d:=default) hlt)
  have hwb:=wgt_b (n:=plan.getD k default) (lost:=lost) (part:=part) (by omega) (by omega) hlo.1 hlo.2 hpa.1 hpa.2
  have hte:=Int.tmod_eq_emod_of_nonneg (a:=(k : Int)) (b:=6) (by omega)
  have ht : ((k : Int).tmod 6).toNat = k:=by omega
  have htm : 0 <= (k : Int).tmod 6 /\ (k : Int).tmod 6 < 6:=by omega
  have hpk : ps.getD ((k : Int).tmod 6).toNat default = wgtZ (plan.getD k default) lost:=by
   have:=hpt.2 k (by omega)
   rw [if_pos hlt] at this
   rw [ht];exact this
  unfold wgtZ at hpk hwb
  repeat' first|((with_reducible first|refine XBr.y fun h=>?_|refine XBr.n fun h=>?_|refine XBr.dec (fun h=>?_) fun h=>?_|refine XBr.y2 fun h=>?_|refine XBr.n2 fun h=>?_|refine XBr.bne (fun h=>?_) fun h=>?_|refine XInt.a ?_) <;> conv=>whnf)|((first|refine zj.a ?_|refine XIx.a ?_|refine XIx.b ?_);conv=>whnf)|fail
  all_goals first|(exfalso;omega) | skip
  exact zu.go (k + 1) (by omega) (by omega) rfl ⟨rfl,rfl,rfl,rfl,rfl,rfl,rfl,rfl,rfl,trivial⟩
 obtain rfl : k = plan.length:=by omega
 repeat' ((with_reducible first|refine XBr.y fun h=>?_|refine XBr.n fun h=>?_|refine XBr.dec (fun h=>?_) fun h=>?_) <;> conv=>whnf)
 have hpk : 0 <= r.tmod ((ints plan).length : Int) /\ r.tmod ((ints plan).length : Int) < plan.length:=by
  rw [Int.tmod_eq_emod_of_nonneg hr.1]
  have:=Int.emod_nonneg r (show ((ints plan).length : Int) ≠ 0 by omega)
  have:=Int.emod_lt_of_pos r (show 0 < ((ints plan).length : Int) by omega)
  omega
 have hm : ∀ w ∈ wgK plan lost part plan.length,WgR part ((ints plan).length : Int) w:=wgH_r (peak:=r.tmod ((ints plan).length : Int)) hp1 hlo hpa
 have hw1 : (wgK plan lost part plan.length).length <= 14:=by have:=f9 plan lost part plan.length;omega
 refine Walk.place (Walk.place ?_)
 apply Walk.drawX za zi [] [10,12,13] (fun fl=>match fl with
  | [a,b',x]=>[hpC u1,.cells (bedC b),.cells (ldC (saL lost ss)),.dead,(bif a then wgB (wgK plan lost part plan.length) else .free),(bif b' then .cells (bif x then [.int .i64 ((ints plan).length : Int),.int .i64 (r.tmod ((ints plan).length : Int)),.gr 4 (wgK plan lost part plan.length).length] else [.int .i64 0,.int .i64 0,.sl true []]) else .free)]
  | _=>[]) [_,_,_,_,_,_,.int .i64 (r.tmod ((ints plan).length : Int)),_,_,_,.gr 4 (wgK plan lost part plan.length).length,_,.ptr 5 0,_] (by kernel_rfl) rfl
 ·skip
  repeat' first|((refine zf.weiAt 4 rfl hp1 (by omega) hlo hpa ?_);conv=>whnf)|((refine XFree.at 5 rfl ?_);(conv=>whnf);exact zm.mk rfl rfl)|((with_reducible first|refine XInt.a ?_|apply Chk.go|apply ChkA.go);conv=>whnf)|(refine zj.a ?_;conv=>whnf)|(with_reducible first|apply XAnd.mk|exact trivial)|(exact zm.mk rfl rfl)|fail
 ·skip
  repeat' first|((refine zf.weiAt 4 rfl hp1 (by omega) hlo hpa ?_);conv=>whnf)|((refine XFree.at 5 rfl ?_);(conv=>whnf);exact zm.mk rfl rfl)|((with_reducible first|refine XInt.a ?_|apply Chk.go|apply ChkF.go|apply ChkB.go);conv=>whnf)|(refine zj.a ?_;conv=>whnf)|(with_reducible first|apply XAnd.mk|exact trivial)|(exact zm.mk rfl rfl)|fail
 generalize r.tmod ((ints plan).length : Int) = peak at *
 generalize wgK plan lost part plan.length = ws at *
 have hok : HuOk ⟨((ints plan).length : Int),peak,ws.isEmpty,ws⟩:=hu_ok (r:=part) (by omega) (by omega) hw1 hm
 have hF0:=vT _ hok (fg (fun w hw=>(hm w hw).u) (fun w hw=>(hm w hw).l))
 have hlen : (ws.map wgA).length = ws.length:=List.length_map _
 have hit : 0 < ws.length -> ∃ i : Nat,p.tmod (ws.length : Int) = i /\ i < ws.length:=fun h0=>by
  have h1:=Int.tmod_eq_emod_of_nonneg (a:=p) (b:=(ws.length : Int)) hp.1
  have h2:=Int.emod_nonneg p (show (ws.length : Int) ≠ 0 by omega)
  have h3:=Int.emod_lt_of_pos p (show 0 < (ws.length : Int) by omega)
  exact ⟨(p.tmod (ws.length : Int)).toNat,by omega,by omega⟩
 conv=>whnf
 repeat' first|((first|((refine zf.heap [hpC u1,.cells (bedC b),.cells (ldC (saL lost ss)),.dead,wgB ws,.cells [.int .i64 ((ints plan).length : Int),.int .i64 peak,.gr 4 ws.length]] rfl ?_);(refine zf.lend hF0 (.cons (Froz.agg (huOne ⟨((ints plan).length : Int),peak,ws.isEmpty,ws⟩) (.cons (.low rfl) (.cons (.low rfl) (.cons (Froz.grow rfl hlen (jg _)) .nil)))) .nil) rfl ?_))|(refine zf.ret hae ?_));conv=>whnf)|((with_reducible first|apply XBr.ff|refine XBr.y fun h=>?_|refine XBr.n fun h=>?_|refine XBr.dec (fun h=>?_) fun h=>?_|refine XBr.y1 fun h=>?_|refine XBr.n1 fun h=>?_|refine XBr.beq (fun h=>?_) fun h=>?_|refine XBr.y2 fun h=>?_|refine XBr.n2 fun h=>?_|refine XBr.bne (fun h=>?_) fun h=>?_|refine XInt.a ?_) <;> conv=>whnf)|(refine zj.a ?_;conv=>whnf)|fail
 all_goals first|(rename_i h;exact absurd h (by decide))|exact XOut.bool rfl | skip
 obtain ⟨i,hi,hil⟩:=hit (by omega)
 rw [hi]
 refine zj.mk ⟨hlen,rfl,by omega,by omega⟩ ?_
 have e9 : (i : Int).toNat = i:=rfl
 rw [e9]
 conv=>whnf
 have hwi:=hm _ (zn (xs:=ws) (d:=default) hil)
 have hmh:=hwi.t
 skip
 apply Walk.drawX za zi [] [18] (hsC [[hpC u1,.cells (bedC b),.cells (ldC (saL lost ss)),.dead,wgB ws,.cells [.int .i64 ((ints plan).length : Int),.int .i64 peak,.gr 4 ws.length]],[hpC u1,.cells (bedC b),.cells (ldC (saL lost ss)),.dead,.grow 133 ws.isEmpty ((ws.set i (frW (ws.getD i default))).map wgA),.cells [.int .i64 ((ints plan).length : Int),.int .i64 peak,.gr 4 ws.length]]]) [_,_,_,_,_,_,_,_,_,_,_,_,_,_,_,_,_,_,_] (by kernel_rfl) rfl
 ·skip
  repeat' first|((refine XGet.mapF (f:=wgA) default (by omega) (by omega) ?_);conv=>whnf)|((refine zP.wg rfl hil ?_);exact zm.mk rfl rfl)|((with_reducible first|refine XInt.a ?_|apply Chk.go|apply ChkA.go);conv=>whnf)|(with_reducible first|apply XAnd.mk|exact trivial)|(exact zm.mk rfl rfl)|fail
 ·skip
  repeat' first|((with_reducible first|apply Chk.go|apply ChkF.go|apply ChkB.go);conv=>whnf)|(with_reducible first|apply XAnd.mk|exact trivial)|(exact zm.mk rfl rfl)|fail
 conv=>whnf
 have hm' : ∀ w ∈ (⟨((ints plan).length : Int),peak,ws.isEmpty,ws⟩ : Hu).ws,WgR part (⟨((ints plan).length : Int),peak,ws.isEmpty,ws⟩ : Hu).months w:=hm
 have hok1:=frH_ok hok hm' hil
 have hone:=frH_up hok hm' hil
 have hno:=less_no (i:=i) hm'
 have hil2 : i < (frH ⟨((ints plan).length : Int),peak,ws.isEmpty,ws⟩ i).ws.length:=by
  show i < (ws.set i _).length
  rw [List.length_set];exact hil
 have hwo:=zaC _ hok1 i hil2
 have hcl:=zbG _ (less_ok (i:=i) hok1) hno
 have hpr:=zaU _ hok1 i hone
 obtain ⟨nl,fl,G,g1,g2,g3,hfw,htr⟩:=bo_all _ hok1 i hone
 have hl3 : (frH ⟨((ints plan).length : Int),peak,ws.isEmpty,ws⟩ i).ws.length = ws.length:=by
  show (ws.set i _).length = _
  rw [List.length_set]
 rw [hl3] at g3
 have hn1 : ((ws.set i (frW (ws.getD i default))).map wgA).length = ws.length:=by rw [List.length_map,List.length_set]
 have hl4 : (((frH ⟨((ints plan).length : Int),peak,ws.isEmpty,ws⟩ i).ws.map wgA).length : Int) = ws.length:=by rw [List.length_map,hl3]
 generalize hH : frH ⟨((ints plan).length : Int),peak,ws.isEmpty,ws⟩ i = hh at *
 have hHA : huC hh = [.int .i64 ((ints plan).length : Int),.int .i64 peak,.sl ws.isEmpty ((ws.set i (frW (ws.getD i default))).map wgA)]:=by rw [<- hH];rfl
 repeat' first|((first|((refine zf.heap [hpC u1,.cells (bedC b),.cells (ldC (saL lost ss)),.dead,.grow 133 ws.isEmpty ((ws.set i (frW (ws.getD i default))).map wgA),.cells [.int .i64 ((ints plan).length : Int),.int .i64 peak,.gr 4 ws.length]] rfl ?_);(refine zf.freezeCell 5 2 4 ws.length (t:=133) (nl:=ws.isEmpty) (els:=(ws.set i (frW (ws.getD i default))).map wgA) rfl rfl rfl hn1 (.agg (cs':=huC hh) (huOne hh) (by rw [hHA];exact .same (.same (.gr .nil))) .nil) ?_);(refine zf.ret hfw ?_))|((refine zf.heap [hpC u1,.cells (bedC b),.cells (ldC (saL lost ss)),.dead,.dead,.cells (huC hh)] (by rw [hHA];rfl) ?_);(refine zf.args [huA hh] (by unfold huA;rw [hHA];rfl) ?_);(refine zf.ret hpr ?_))|(first|refine zf.ret htr ?_|refine zf.ret hwo ?_|refine zf.ret hcl ?_));conv=>whnf)|(refine zj.a ?_;conv=>whnf)|fail
 refine Walk.norm za [] [(13,_),(22,_),(23,_),(24,_),(26,_),(27,_),(28,_),(29,_),(31,_),(33,_)] ⟨rfl,rfl,rfl,rfl,rfl,rfl,rfl,rfl,rfl,rfl,trivial⟩ ?_
 conv=>whnf
 have k1 : ((k7 fl).length : Int) = fl.length:=by unfold k7;rw [List.length_map]
 have k2 : (((bpL hh i).map bpP).length : Int) = fl.length:=by rw [List.length_map,g1]
 have k3 : ((k7 (trF G hh.ws.length)).length : Int) = (trF G hh.ws.length).length:=by unfold k7;rw [List.length_map]
 rw [<- hl3] at g3
 repeat' ((with_reducible first|apply XBr.ff|refine XBr.y fun h=>?_|refine XBr.n fun h=>?_|refine XBr.dec (fun h=>?_) fun h=>?_|refine XBr.y2 fun h=>?_|refine XBr.n2 fun h=>?_|refine XBr.bne (fun h=>?_) fun h=>?_|refine XInt.a ?_) <;> conv=>whnf)
 all_goals first|(exfalso;omega) | skip
 clear hpr g1 hfw htr k1 k2 k3 hwo hcl g2 g3
 rcases bpL_cases hh i with hb | ⟨b1,hb⟩
 ·rw [hb]
  refine Walk.loopK za [] [(24,_),(258,_),(259,_)] ⟨rfl,rfl,rfl,trivial⟩ (fun k : Nat=>k <= 0) (fun k=>[(260,natA k)]) (fun k=>[hpC u1,.cells (bedC b),.cells (ldC (saL lost ss)),.dead,.dead,.cells (huC hh),.cells (huC (wP hh i)),.cells [.int .i64 0,.int .i64 0]]) (fun k=>0 - k) 0 (Nat.zero_le _) rfl ⟨rfl,trivial⟩ ?_
  intro k hk
  obtain rfl : k = 0:=by omega
  conv=>whnf
  repeat' ((first|refine zf.ret hae ?_|(with_reducible refine XBr.no rfl ?_));conv=>whnf)
  exact XOut.bool rfl
 ·rw [hb]
  refine Walk.loopK za [] [(24,_),(258,_),(259,_)] ⟨rfl,rfl,rfl,trivial⟩ (fun k : Nat=>k <= 1) (fun k=>[(260,natA k)]) (fun k=>match k with | 0=>[hpC u1,.cells (bedC b),.cells (ldC (saL lost ss)),.dead,.dead,.cells (huC hh),.cells (huC (wP hh i)),.cells [.int .i64 0,.int .i64 0]] | _=>[hpC u1,.cells (bedC b),.cells (ldC (saL lost ss)),.dead,.dead,.cells (huC hh),.cells (huC (wP hh i)),.cells [.int .i64 0,.int .i64 0],.cells [natA i,natA b1]]) (fun k=>1 - k) 0 (Nat.zero_le _) rfl ⟨rfl,trivial⟩ ?_
  intro k hk
  conv=>whnf
  have hck : k = 0 \/ k = 1:=by omega
  rcases hck with rfl | rfl
  ·skip
   repeat' first|((first|(rw [hb];refine XIx.mk (Int.le_refl 0) (show (0 : Int) < 1 by decide) rfl ?_)|(with_reducible refine XBr.yes rfl ?_));conv=>whnf)|((with_reducible first|apply XBr.ff|refine XBr.y2 fun h=>?_|refine XBr.n2 fun h=>?_|refine XBr.bne (fun h=>?_) fun h=>?_|refine XInt.a ?_) <;> conv=>whnf)|fail
   exact zu.go 1 (by omega) (by omega) rfl ⟨rfl,rfl,rfl,rfl,trivial⟩
  ·skip
   repeat' ((first|refine zf.ret hae ?_|(with_reducible refine XBr.no rfl ?_));conv=>whnf)
   exact XOut.bool rfl
end GA
end
