/- Part 6 of a proof: S67, S40, S42, S68, S69, S70, S71, S72, Abs36, Abs37, Abs39, Abs40, Abs43, Abs45, Abs47, Abs48, Abs49, V1, V2, V3, S52, S54. -/
import Derived.Test.YtnjobcijpmnloaaGreatP5
import Derived.Shelf.Spec.SlicesInsert
import Derived.Shelf.Spec.SlicesInsertGrow
set_option linter.unusedVariables false
set_option linter.unusedSimpArgs false
set_option maxRecDepth 8000
section
namespace GA
open Go Go.RowKit Go.Proofs
def tabR (m : Nat) (f : Nat -> Bool) : List Bool:=(List.range m).map f
theorem yc (m : Nat) (f : Nat -> Bool) : (tabR m f).length = m:=by simp [tabR]
theorem kz {m : Nat} {f : Nat -> Bool} {i : Nat} (h : i < m) : (tabR m f).getD i default = f i:=by
 unfold tabR;rw [List.getD_eq_getElem?_getD,List.getElem?_map,List.getElem?_range h];rfl
theorem vg {m : Nat} {f g : Nat -> Bool} (h : ∀ i,i < m -> f i = g i) : tabR m f = tabR m g:=List.map_congr_left fun i hi=>h i (List.mem_range.1 hi)
theorem tabR_set {m : Nat} {f g : Nat -> Bool} {k : Nat} (h : k < m) (hg : ∀ i,i < m -> g i = if k = i then true else f i) : (tabR m f).set k true = tabR m g:=by
 refine y5 (d:=default) (by rw [List.length_set,yc,yc]) fun j hj=>?_
 rw [List.length_set,yc] at hj
 rw [kz hj,hg j hj,List.getD_eq_getElem?_getD,List.getElem?_set]
 by_cases e : k = j
 ·subst e;rw [if_pos rfl,if_pos (by rw [yc];exact h),if_pos rfl];rfl
 ·rw [if_neg e,if_neg e,<- List.getD_eq_getElem?_getD,kz hj]
theorem vo (l : Ld) (o : LdOk l) : Comp Tryz.prog 98 [ldA l] (.sl false (bools (tabR (2 ^ l.sacks.length) (zn (zf l))))):=by
 have e2 : ((l.sacks.map skA).length : Int) = l.sacks.length:=by rw [List.length_map]
 have hn:=o.n
 have hp9:=pow9 hn
 have hsh : Unit -> (1 : Int) * 2 ^ (min (((l.sacks.map skA).length : Int)).toNat IntKind.i64.bits) = ((2 ^ l.sacks.length : Nat) : Int):=fun _=>by rw [e2];exact kw (by omega)
 have hset:=fun s (hs : s < 512)=>zbc l s (by omega) (by omega)
 have hri : ∀ s,s < 2 ^ l.sacks.length -> Comp Tryz.prog 51 [ldA l,.sl false (bools (z8 l.sacks.length s))] (.bool (zn (zf l) s)):=fun s hs=>by
  have e:=wQ l o false (z8 l.sacks.length s) (z5 _ _)
  rwa [v3 hs] at e
 generalize zn (zf l) = R at hri
 refine Comp.body (T:=tab) (res:=[.tmp 2]) zb [] Tryz.func98 rfl (by kernel_rfl) Tryz.ntmps98 rfl (by simp only [List.length_cons,List.length_nil];decide) (by simp only [lowL,AV.low,ldL];rfl) ?_;conv=>whnf
 generalize hM : 2 ^ l.sacks.length = M at hp9 hsh hri
 repeat' first|((with_reducible refine zj.mk ?_ ?_);(first | omega | rfl | decide|exact ⟨rfl,by decide,rfl⟩|exact zz _|exact zp _|exact zq _|(unfold Room;constructor <;> ((try simp) <;> omega))|exact ⟨rfl,by simp only [List.length_map],by unfold Room;constructor <;> ((try simp) <;> omega)⟩|exact ⟨by omega,by omega,by unfold Room;constructor <;> ((try simp) <;> omega)⟩);conv=>whnf)|((refine XInt.eq (hsh ()) (by omega) (by omega) ?_);conv=>whnf)|fail
 refine Walk.loop zb [] (fun k : Nat=>k <= M) (fun k=>[(1,.pim (ldC l)),(2,.sl true []),(3,.gr 0 M),(4,natA k)]) (fun k=>[.grow 4 false (bools (tabK M R k))]) (fun k=>M - k) 0 (Nat.zero_le _) ?_ ⟨rfl,rfl,rfl,rfl,trivial⟩ ?_
 ·rw [zbZ];congr 4;simp
 intro k hk
 have hl:=wv M R k
 have hst:=fun h b hb=>zd6 (m:=M) (f:=R) (k:=k) h (b:=b) hb
 have hal:=fun h=>zen M R (k:=k) h
 generalize tabK M R k = bs at hl hst hal
 conv=>whnf
 repeat' first|((with_reducible apply XBr.dec) <;> (intro h;first|(exfalso;omega)|((try simp only [List.length_map] at h);first|(exfalso;omega)|(conv=>whnf))))|((refine zj.mk (by rw [List.length_map];exact hl) ?_);conv=>whnf)|fail
 ·apply Walk.drawX zb zk [] [8] (hsC [[.grow 4 false (bools bs)],[.grow 4 false (bools (bs.set k (R k)))]]) [_,_,_,_,_,_,_,_,_] (by kernel_rfl) rfl
  ·skip
   repeat' first|(with_reducible apply XAnd.mk)|((first|(with_reducible apply Chk.go)|(with_reducible apply ChkA.go));conv=>whnf)|(exact zg.mk rfl rfl)|(with_reducible exact trivial)|((first|(refine za.ret (hset k (by omega)) ?_)|(refine za.ret (hri k (by omega)) ?_)|(refine zj.mk ⟨by rw [List.length_map];exact hl,rfl,by omega,by omega⟩ ?_)|(refine XPut.bools bs _ rfl hl.symm (by omega) ?_));conv=>whnf)|fail
  ·skip
   repeat' first|(with_reducible apply XAnd.mk)|((first|(with_reducible apply ChkF.go)|(with_reducible apply ChkB.go));conv=>whnf)|(with_reducible exact trivial)|fail
  conv=>whnf
  repeat' first|((with_reducible refine XInt.i64 (by omega) (by omega) ?_);conv=>whnf)|fail
  refine zh.go (k + 1) (by omega) (by omega) ?_ ⟨rfl,rfl,rfl,rfl,trivial⟩
  rw [<- hst (by omega) (R k) rfl];rfl
 ·rw [hal (by omega)] at hl ⊢
  exact ⟨Froz.grow rfl (by rw [List.length_map];exact hl) (jI _)⟩
def hit (R : Nat -> Bool) (s a k : Nat) : Bool:=R k && (a &&& k == 0) && (a + k == s)
def yd (R g : Nat -> Bool) (M a k s : Nat) : Bool:=g s ||(List.range a).any (fun b=>g b && (List.range M).any (hit R s b)) ||(g a && (List.range k).any (hit R s a))
def yz (R : Nat -> Bool) (M : Nat) : Nat -> Nat -> Bool
 | 0,s=>s == 0
 | c + 1,s=>yd R (yz R M c) M M 0 s
theorem zeV (R g : Nat -> Bool) (M s : Nat) : yd R g M 0 0 s = g s:=by simp [yd]
theorem zdx (p : Nat -> Bool) (a : Nat) : (List.range (a + 1)).any p = ((List.range a).any p || p a):=by rw [List.range_succ,List.any_append];simp
theorem zau (R g : Nat -> Bool) (M a k s : Nat) : yd R g M a (k + 1) s = (yd R g M a k s ||(g a && hit R s a k)):=by
 unfold yd;rw [zdx];cases g a <;> simp [Bool.or_assoc]
theorem zcl (R g : Nat -> Bool) (M a s : Nat) : yd R g M (a + 1) 0 s = if g a = true then yd R g M a M s else yd R g M a 0 s:=by
 unfold yd;rw [zdx];cases g a <;> simp [Bool.or_assoc]
theorem zaY (a : Nat) : ∀ b,a + b = (a ||| b) + (a &&& b):=by
 induction a using Nat.strongRecOn with
 | ind a ih =>
   intro b
   by_cases h0 : a = 0
   ·subst h0;simp
   ·have h1:=ih (a / 2) (by omega) (b / 2)
    have h2:=Nat.div_add_mod (a ||| b) 2
    have h3:=Nat.div_add_mod (a &&& b) 2
    rw [Nat.or_div_two] at h2
    rw [Nat.and_div_two] at h3
    have m1 : (a ||| b) % 2 = (a % 2) |||(b % 2):=by have:=@Nat.or_mod_two_pow a b 1;simpa using this
    have m2 : (a &&& b) % 2 = (a % 2) &&& (b % 2):=by have:=@Nat.and_mod_two_pow a b 1;simpa using this
    rcases Nat.mod_two_eq_zero_or_one a with ha | ha <;> rcases Nat.mod_two_eq_zero_or_one b with hb | hb <;> rw [ha,hb] at m1 m2 <;> simp only [Nat.or_zero,Nat.zero_or,Nat.or_self,Nat.and_self,Nat.and_zero,Nat.zero_and] at m1 m2 <;> omega
theorem hit_in {n a k : Nat} (ha : a < 2 ^ n) (hk : k < 2 ^ n) (h : a &&& k = 0) : a + k < 2 ^ n:=by
 have e : a + k = a ||| k:=by have:=zaY a k;omega
 rw [e];exact Nat.or_lt_two_pow ha hk
theorem moreB_hit {R g : Nat -> Bool} {M a k : Nat} (hg : g a = true) (hR : R k = true) (h : a &&& k = 0) (s : Nat) : yd R g M a (k + 1) s = if a + k = s then true else yd R g M a k s:=by
 rw [zau,hg,hit,hR,h]
 by_cases e : a + k = s
 ·rw [if_pos e,e];simp
 ·rw [if_neg e];simp [e]
theorem zeY {R g : Nat -> Bool} {M a k : Nat} (h : ¬ (R k = true /\ a &&& k = 0)) (s : Nat) : yd R g M a (k + 1) s = yd R g M a k s:=by
 rw [zau]
 have : hit R s a k = false:=by
  unfold hit
  cases hR : R k
  ·rfl
  ·have : (a &&& k == 0) = false:=by rw [beq_eq_false_iff_ne];exact fun e=>h ⟨hR,e⟩
   rw [this];rfl
 rw [this];simp
theorem goes_c (l : Ld) (o : LdOk l) (c : Int) (hc : c <= 100000) : Comp Tryz.prog 106 [ldA l,.int .i64 c] (.sl false (bools (tabR (2 ^ l.sacks.length) (yz (zn (zf l)) (2 ^ l.sacks.length) c.toNat)))):=by
 have hn:=o.n
 have hp9:=pow9 hn
 have hcr:=vo l o
 have hin:=fun a k ha hk h=>hit_in (n:=l.sacks.length) (a:=a) (k:=k) ha hk h
 generalize zn (zf l) = R at hcr
 generalize 2 ^ l.sacks.length = M at hp9 hcr hin
 have hrl:=yc M R
 have hrg:=fun i hi=>kz (m:=M) (f:=R) (i:=i) hi
 refine Comp.body' (T:=tab) (res:=[.tmp 4]) zb [] Tryz.func106 rfl (by kernel_rfl) Tryz.ntmps106 rfl (by simp only [List.length_cons,List.length_nil];decide) (by simp only [lowL,AV.low,ldL];rfl) ?_;conv=>whnf
 generalize tabR M R = rs at hcr hrl hrg
 have e1 : ((bools rs).length : Int) = M:=by rw [List.length_map,hrl]
 have e2 : (((bools rs).length : Int)).toNat = M:=by omega
 have hrep : List.replicate (((bools rs).length : Int)).toNat (AV.bool false) = bools (List.replicate M false):=by rw [e2];simp
 have hset0 : (List.replicate M false).set 0 true = tabR M (yz R M 0):=by
  refine y5 (d:=default) (by rw [List.length_set,List.length_replicate,yc]) fun j hj=>?_
  rw [List.length_set,List.length_replicate] at hj
  rw [kz hj,List.getD_eq_getElem?_getD,List.getElem?_set]
  by_cases e : 0 = j
  ·subst e;rw [if_pos rfl,if_pos (by simpa using hj)];rfl
  ·rw [if_neg e,List.getElem?_replicate,if_pos hj]
   show false = (j == 0)
   rw [eq_comm,beq_eq_false_iff_ne];omega
 repeat' first|((with_reducible refine zj.mk ?_ ?_);(first | omega | rfl | decide|exact ⟨rfl,by decide,rfl⟩|exact zz _|exact zp _|exact zq _|(unfold Room;constructor <;> ((try simp) <;> omega))|exact ⟨rfl,by simp only [List.length_map],by unfold Room;constructor <;> ((try simp) <;> omega)⟩|exact ⟨by omega,by omega,by unfold Room;constructor <;> ((try simp) <;> omega)⟩);conv=>whnf)|((first|(refine za.ret hcr ?_)|(refine zj.mk ⟨by rw [hrep,List.length_map,List.length_replicate];exact e2.symm,rfl,by omega,by omega⟩ ?_)|(refine XPut.bools (List.replicate M false) _ hrep (by rw [List.length_replicate];exact e2) (by omega) ?_));conv=>whnf)|fail
 refine Walk.keep zb [] [] _ [(1,.int .i64 c),(4,.sl true []),(5,.sl false (bools rs)),(6,.sl false (bools (tabR M (yz R M 0)))),(7,.int .i64 0)] rfl (by simp) ⟨⟨_,rfl,.same rfl⟩,⟨_,rfl,.same rfl⟩,⟨_,rfl,.same (by simp only [AV.low,jI])⟩,⟨_,rfl,.gr (Nat.zero_le _) (by rw [<- hset0];rfl) (by rw [List.length_map,yc];exact e2.symm) (jI _)⟩,⟨_,rfl,.same rfl⟩,trivial⟩ rfl ?_
 conv=>whnf
 refine Walk.loopF zb [] (fun q : Nat=>q <= c.toNat) (fun q=>[(1,.int .i64 c),(4,.sl true []),(5,.sl false (bools rs)),(6,.sl false (bools (tabR M (yz R M q)))),(7,natA q)]) (fun _=>[.dead]) (fun q=>c.toNat - q) 0 (Nat.zero_le _) rfl ⟨rfl,rfl,rfl,rfl,rfl,trivial⟩ (fun _ _ x hx=>by simp at hx;subst hx;rfl) (fun _ _=>Nat.le_refl _) ?_
 intro q hq
 have hgs : ∀ s,yz R M (q + 1) s = yd R (yz R M q) M M 0 s:=fun _=>rfl
 have hqc : q = c.toNat -> yz R M q = yz R M c.toNat:=fun h=>by rw [h]
 generalize yz R M q = g at hgs hqc
 have hgl:=yc M g
 have hgg:=fun i hi=>kz (m:=M) (f:=g) (i:=i) hi
 have hg0 : tabR M (yd R g M 0 0) = tabR M g:=vg fun i _=>zeV ..
 have eg : ((bools (tabR M g)).length : Int) = M:=by rw [List.length_map,hgl]
 generalize hgd : tabR M g = gs at hgl hgg hg0 eg
 conv=>whnf
 repeat' first|((with_reducible apply XBr.dec) <;> (intro h;first|(exfalso;omega)|((try simp only [List.length_map] at h);first|(exfalso;omega)|(conv=>whnf))))|((with_reducible refine zj.mk ?_ ?_);(first | omega | rfl | decide|exact ⟨rfl,by decide,rfl⟩|exact zz _|exact zp _|exact zq _|(unfold Room;constructor <;> ((try simp) <;> omega))|exact ⟨rfl,by simp only [List.length_map],by unfold Room;constructor <;> ((try simp) <;> omega)⟩|exact ⟨by omega,by omega,by unfold Room;constructor <;> ((try simp) <;> omega)⟩);conv=>whnf)|((refine zj.mk (wideBo _) ?_);conv=>whnf)|fail
 ·refine Walk.loop zb [] (fun a : Nat=>a <= M) (fun a=>[(1,.int .i64 c),(4,.sl true []),(5,.sl false (bools rs)),(6,.sl false (bools gs)),(7,natA q),(8,.gr 1 M),(9,natA a)]) (fun a=>[.dead,.grow 4 false (bools (tabR M (yd R g M a 0)))]) (fun a=>M - a) 0 (Nat.zero_le _) (by rw [hg0]) ⟨rfl,rfl,rfl,rfl,rfl,?_,rfl,trivial⟩ ?_
  ·exact congrArg (fun n=>some (AV.gr 1 n)) (by omega)
  intro a ha
  have hms1 : g a = true -> tabR M (yd R g M (a + 1) 0) = tabR M (yd R g M a M):=fun h=>vg fun s _=>by rw [zcl,if_pos h]
  have hms0 : g a = false -> tabR M (yd R g M (a + 1) 0) = tabR M (yd R g M a 0):=fun h=>vg fun s _=>by rw [zcl,if_neg (by rw [h];simp)]
  conv=>whnf
  repeat' first|((with_reducible apply XBr.dec) <;> (intro h;first|(exfalso;omega)|((try simp only [List.length_map] at h);first|(exfalso;omega)|(conv=>whnf))))|((with_reducible refine XInt.i64 (by omega) (by omega) ?_);conv=>whnf)|fail
  ·refine Walk.loop zb [] (fun k : Nat=>k <= M /\ (k = 0 \/ g a = true)) (fun k=>[(1,.int .i64 c),(4,.sl true []),(5,.sl false (bools rs)),(6,.sl false (bools gs)),(7,natA q),(8,.gr 1 M),(9,natA a),(10,natA k)]) (fun k=>[.dead,.grow 4 false (bools (tabR M (yd R g M a k)))]) (fun k=>M - k) 0 ⟨Nat.zero_le _,.inl rfl⟩ rfl ⟨rfl,rfl,rfl,rfl,rfl,rfl,rfl,rfl,trivial⟩ ?_
   rintro k ⟨hk,hga⟩
   have hml:=yc M (yd R g M a k)
   have hmi:=fun h=>vg (m:=M) (f:=yd R g M a (k + 1)) (g:=yd R g M a k) (fun s _=>zeY (R:=R) (g:=g) (M:=M) (a:=a) (k:=k) h s)
   have hmh:=fun h1 h2 h3 h4=>tabR_set (m:=M) (f:=yd R g M a k) (g:=yd R g M a (k + 1)) (k:=a + k) h4 (fun s _=>moreB_hit (R:=R) (g:=g) (M:=M) (a:=a) (k:=k) h1 h2 h3 s)
   have hand : iand .i64 (a : Int) (k : Int) = ((a &&& k : Nat) : Int):=w7 (by omega) (by omega)
   have hga2:=hgg a
   have hrk:=hrg k
   have hin2:=hin a k
   generalize hms' : tabR M (yd R g M a k) = ms at hml hmi hmh
   conv=>whnf
   repeat' first|((first|(with_reducible apply XBr.tt)|(with_reducible apply XBr.ff));conv=>whnf)|((with_reducible apply XBr.dec) <;> (intro h;first|(exfalso;omega)|((try simp only [List.length_map] at h);first|(exfalso;omega)|(conv=>whnf))))|((with_reducible apply XBr.beq) <;> (intro h;first|(exfalso;omega)|(conv=>whnf)))|((first|(with_reducible refine XInt.i64 (by omega) (by omega) ?_)|((with_reducible refine XIx.nat ?_ ?_ ?_);omega;(intro _;rfl))|(refine zj.mk ⟨by rw [List.length_map];exact hml,rfl,by omega,by omega⟩ ?_)|(refine XPut.bools ms _ rfl hml.symm (by omega) ?_));conv=>whnf)|((with_reducible apply XBr.mk') <;> (intro h;conv=>whnf))|fail
   ·have hgt : g a = true:=by rw [<- hga2 (by omega)];assumption
    have hR : R k = true:=by rw [<- hrk (by omega)];assumption
    have h0 : a &&& k = 0:=by rw [hand] at h;omega
    refine zh.go (k + 1) ⟨by omega,.inr hgt⟩ (by omega) ?_ ⟨rfl,rfl,rfl,rfl,rfl,rfl,rfl,rfl,trivial⟩
    rw [<- hmh hgt hR h0 (hin2 (by omega) (by omega) h0)];rfl
   ·have hgt : g a = true:=by rw [<- hga2 (by omega)];assumption
    refine zh.go (k + 1) ⟨by omega,.inr hgt⟩ (by omega) ?_ ⟨rfl,rfl,rfl,rfl,rfl,rfl,rfl,rfl,trivial⟩
    rw [hmi (fun e=>by rw [hand] at h;omega)]
   ·have hgt : g a = true:=by rw [<- hga2 (by omega)];assumption
    have hR : R k = false:=by rw [<- hrk (by omega)];exact h
    refine zh.go (k + 1) ⟨by omega,.inr hgt⟩ (by omega) ?_ ⟨rfl,rfl,rfl,rfl,rfl,rfl,rfl,rfl,trivial⟩
    rw [hmi (fun e=>by rw [hR] at e;cases e.1)]
   ·have hgt : g a = true:=by rw [<- hga2 (by omega)];assumption
    refine zh.go (a + 1) (by omega) (by omega) ?_ ⟨rfl,rfl,rfl,rfl,rfl,rfl,rfl,trivial⟩
    rw [<- hms',hms1 hgt,show k = M by omega]
   ·have hgt : g a = false:=by rw [<- hga2 (by omega)];exact h
    have hk0 : k = 0:=hga.elim id (fun e=>by rw [hgt] at e;cases e)
    refine zh.go (a + 1) (by omega) (by omega) ?_ ⟨rfl,rfl,rfl,rfl,rfl,rfl,rfl,trivial⟩
    rw [<- hms',hms0 hgt,hk0]
  ·refine vB.go (q + 1) [.grow 4 false (bools (tabR M (yd R g M a 0)))] (by omega) (by omega) rfl ⟨⟨_,rfl,.same rfl⟩,⟨_,rfl,.same rfl⟩,⟨_,rfl,.same (by simp only [AV.low,jI])⟩,⟨_,rfl,?_⟩,⟨_,rfl,.same rfl⟩,trivial⟩
   rw [vg (fun s _=>hgs s),show M = a by omega]
   exact .gr (Nat.le_refl _) rfl (by rw [List.length_map,yc]) (jI _)
 ·rw [<- hqc (by omega),hgd]
  exact ⟨Froz.low (by show AV.low 0 (.sl false (bools gs)) = true;simp only [AV.low,jI])⟩
end GA
end
section
namespace GA
open Go Go.RowKit Go.Proofs
def fewA (l : Ld) : AV:=if 9 < ye (zf l) then .tup [.sl true [],.int .i64 0,.int .i64 6] else .tup [.sl false (nats (yq (zf l) (ye (zf l)) (ye (zf l))).out),natA (ye (zf l)),.int .i64 0]
theorem few_c (l : Ld) (o : LdOk l) (w : LdW l) : Comp Tryz.prog 7 [ldA l] (fewA l):=by
 have h:=vt l w.w w.h1 w.h2 w.h3
 unfold yQ kT at h
 rw [if_pos ((zB l).2 o)] at h
 exact h
end GA
end
section
namespace GA
open Go Go.RowKit Go.Proofs
theorem zdE (ps : List Int) (h0 : ∀ x ∈ ps,0 <= x) : ∀ (f i s : Nat),s < 2 ^ f -> ((ym f i s).map fun x=>ps.getD x.toNat 0).sum = (sumW ((ps.drop i).map Int.toNat) s : Int)
 | 0,i,s,h=>by
   have : s = 0:=by simpa using h
   subst this
   rw [wr];rfl
 | f + 1,i,s,h=>by
   have ih:=zdE ps h0 f (i + 1) (s / 2) (by rw [Nat.pow_succ] at h;omega)
   have e : ym (f + 1) i s = if s = 0 then [] else if s % 2 = 1 then (i : Int) :: ym f (i + 1) (s / 2) else ym f (i + 1) (s / 2):=rfl
   rw [e]
   by_cases hs : s = 0
   ·subst hs;rw [if_pos rfl,wr];rfl
   ·rw [if_neg hs]
    by_cases hi : i < ps.length
    ·have hd : ps.drop i = ps.getD i 0 :: ps.drop (i + 1):=by
      rw [List.drop_eq_getElem_cons hi,List.getD_eq_getElem?_getD,List.getElem?_eq_getElem hi];rfl
     have hp : 0 <= ps.getD i 0:=h0 _ (zu hi)
     rw [hd,List.map_cons]
     unfold sumW
     by_cases ho : s % 2 = 1
     ·rw [if_pos ho,if_pos ho,List.map_cons,List.sum_cons,ih]
      have : (i : Int).toNat = i:=rfl
      rw [this];omega
     ·rw [if_neg ho,if_neg ho,ih];omega
    ·have hd : ps.drop i = []:=List.drop_eq_nil_of_le (by omega)
     have hd2 : ps.drop (i + 1) = []:=List.drop_eq_nil_of_le (by omega)
     have hg : ps.getD i 0 = 0:=by rw [List.getD_eq_getElem?_getD,List.getElem?_eq_none (by omega)];rfl
     rw [hd2] at ih
     have z : ∀ k,sumW (([] : List Int).map Int.toNat) k = 0:=fun k=>rfl
     rw [z] at ih
     rw [hd,z]
     by_cases ho : s % 2 = 1
     ·rw [if_pos ho,List.map_cons,List.sum_cons,ih]
      have : (i : Int).toNat = i:=rfl
      rw [this,hg];rfl
     ·rw [if_neg ho,ih]
end GA
end
section
namespace GA
open Go Go.RowKit Go.Proofs
theorem zc9 {b k : Nat} (h : b &&& k = 0) : b + k = b ||| k:=by have:=zaY b k;omega
theorem disj_bit {b k i : Nat} (h : b &&& k = 0) : ¬ (b.testBit i = true /\ k.testBit i = true):=fun e=>by
 have : (b &&& k).testBit i = false:=by rw [h];exact Nat.zero_testBit i
 rw [Nat.testBit_and,e.1,e.2] at this;cases this
theorem zcd {R : Nat -> Bool} {n : Nat} : ∀ (c s : Nat),s < 2 ^ n -> (yz R (2 ^ n) c s = true ↔ ∃ k,k <= c /\ Pk R k s)
 | 0,s,hs=>by
   show (s == 0) = true ↔ _
   rw [beq_iff_eq]
   constructor
   ·rintro rfl;exact ⟨0,Nat.le_refl _,.nil⟩
   ·rintro ⟨k,hk,h⟩
    have : k = 0:=by omega
    subst this;exact h.none
 | c + 1,s,hs=>by
   have ih:=fun s hs=>zcd (R:=R) (n:=n) c s hs
   have e : yz R (2 ^ n) (c + 1) s = true ↔ yz R (2 ^ n) c s = true \/ ∃ b,b < 2 ^ n /\ yz R (2 ^ n) c b = true /\ ∃ k,k < 2 ^ n /\ R k = true /\ b &&& k = 0 /\ b + k = s:=by
    show yd R (yz R (2 ^ n) c) (2 ^ n) (2 ^ n) 0 s = true ↔ _
    unfold yd hit
    simp only [Bool.or_eq_true,List.any_eq_true,List.mem_range,Bool.and_eq_true,beq_iff_eq,Nat.not_lt_zero,false_and,exists_false,and_false,or_false,and_assoc]
   rw [e]
   constructor
   ·rintro (h | ⟨b,hb,hg,k,hk,hR,h0,rfl⟩)
    ·obtain ⟨k,h1,h2⟩:=(ih s hs).1 h;exact ⟨k,by omega,h2⟩
    ·obtain ⟨m,h1,h2⟩:=(ih b hb).1 hg
     by_cases hk0 : k = 0
     ·subst hk0;exact ⟨m,by omega,by rw [Nat.add_zero];exact h2⟩
     ·refine ⟨m + 1,by omega,.cons k hR (fun i hi=>?_) hk0 ?_⟩
      ·rw [zc9 h0,Nat.testBit_or,hi,Bool.or_true]
      ·have : diff (b + k) k = b:=yY fun i=>by
        rw [zV,zc9 h0,Nat.testBit_or]
        have:=disj_bit (i:=i) h0
        cases hb : b.testBit i <;> cases hk : k.testBit i <;> simp_all
       rw [this];exact h2
   ·rintro ⟨m,hm,h⟩
    cases h with
    | nil=>exact .inl ((ih 0 hs).2 ⟨0,Nat.zero_le _,.nil⟩)
    | @cons m _ k hr hsu h0 t =>
      have hd : diff s k <= s:=(zdu s k).le
      have hkl : k <= s:=hsu.le
      have hz : diff s k &&& k = 0:=yY fun i=>by
       rw [Nat.testBit_and,zV,Nat.zero_testBit];cases s.testBit i <;> cases k.testBit i <;> rfl
      refine .inr ⟨diff s k,by omega,(ih _ (by omega)).2 ⟨m,by omega,t⟩,k,by omega,hr,hz,?_⟩
      rw [zc9 hz]
      exact yY fun i=>by
       rw [Nat.testBit_or,zV]
       have:=hsu i
       cases hk : k.testBit i
       ·simp
       ·rw [this hk];rfl
theorem zb2 {R : Nat -> Bool} {n c s v : Nat} (hs : s < 2 ^ n) (hc : c <= 9) (h : zb8 R s v) : yz R (2 ^ n) c s = decide (v <= c):=by
 rw [Bool.eq_iff_iff,zcd c s hs,decide_eq_true_eq]
 constructor
 ·rintro ⟨k,hk,hp⟩;have:=h.lo k hp;omega
 ·intro hv;exact ⟨v,hv,h.is (by omega)⟩
def better (W : Nat -> Nat) (G : Nat -> Bool) (b k : Nat) : Bool:=G k && (decide (W b < W k) || decide (W k = W b) && decide (cmpL (bits k) (bits b) < 0))
def z0 (W : Nat -> Nat) (G : Nat -> Bool) : Nat -> Nat
 | 0=>0
 | k + 1=>if better W G (z0 W G k) k = true then k else z0 W G k
theorem qO (W : Nat -> Nat) (G : Nat -> Bool) : ∀ k,z0 W G k <= k
 | 0=>Nat.le_refl _
 | k + 1=>by
   have:=qO W G k
   unfold z0;split <;> omega
theorem zd5 (W : Nat -> Nat) (G : Nat -> Bool) {k : Nat} (h : 0 < k) : z0 W G k < k:=by
 cases k with
 | zero=>omega
 | succ k=>have:=qO W G k;unfold z0;split <;> omega
def wsum (l : Ld) (is : List Int) : Int:=(is.map fun i=>(l.sacks.map (zO l)).getD i.toNat 0).sum
theorem wsum_bits {l : Ld} (o : LdOk l) {s : Nat} (hs : s < 2 ^ l.sacks.length) : wsum l (bits s) = (sumW (wts l) s : Int):=by
 have hp:=pow9 o.n
 have h0 : ∀ x ∈ l.sacks.map (zO l),0 <= x:=fun x hx=>by
  obtain ⟨k,hk,rfl⟩:=List.mem_map.1 hx
  have:=vS o hk;omega
 have:=zdE (l.sacks.map (zO l)) h0 62 0 s (by omega)
 rw [List.drop_zero,List.map_map] at this
 exact this
end GA
end
section
namespace GA
open Go Go.RowKit Go.Proofs
theorem wsum_next {l : Ld} {is : List Int} {j : Nat} (hj : j < is.length) (hi : (is.getD j default).toNat < l.sacks.length) : wsum l (is.take (j + 1)) = wsum l (is.take j) + zO l (l.sacks.getD (is.getD j default).toNat default):=by
 unfold wsum
 rw [zS hj,List.map_append,List.sum_append]
 congr 1
 rw [List.map_cons,List.map_nil,List.sum_cons,List.sum_nil,Int.add_zero,List.getD_eq_getElem?_getD,List.getElem?_map,List.getD_eq_getElem?_getD (l:=l.sacks),List.getElem?_eq_getElem hi];rfl
theorem wsum_bd {l : Ld} (o : LdOk l) {is : List Int} (hb : ∀ x ∈ is,0 <= x /\ x < l.sacks.length) : 0 <= wsum l is /\ wsum l is <= 100 * is.length:=by
 induction is with
 | nil=>simp [wsum]
 | cons x is ih =>
   have ih:=ih fun y hy=>hb y (List.mem_cons_of_mem _ hy)
   have hx:=hb x List.mem_cons_self
   have hm:=vS o (zu (xs:=l.sacks) (i:=x.toNat) (d:=default) (by omega))
   have e : wsum l (x :: is) = zO l (l.sacks.getD x.toNat default) + wsum l is:=by
    unfold wsum;rw [List.map_cons,List.sum_cons];congr 1
    rw [List.getD_eq_getElem?_getD,List.getElem?_map,List.getD_eq_getElem?_getD (l:=l.sacks),List.getElem?_eq_getElem (by omega)];rfl
   rw [e,List.length_cons];omega
theorem bits_in {n s : Nat} (hn : n <= 9) (hs : s < 2 ^ n) : ∀ x ∈ bits s,0 <= x /\ x < n:=fun x hx=>by
 have:=ki 62 0 s n hs x hx;omega
def jZ (l : Ld) (c : Nat) : Nat:=z0 (sumW (wts l)) (yz (zn (zf l)) (2 ^ l.sacks.length) c) (2 ^ l.sacks.length)
set_option maxHeartbeats 1000000 in
theorem refBest_c (l : Ld) (o : LdOk l) (c : Int) (hc : c <= 100000) : Comp Tryz.prog 78 [ldA l,.int .i64 c] (.tup [slA (bits (jZ l c.toNat)),natA (sumW (wts l) (jZ l c.toNat))]):=by
 have hn:=o.n
 have hp9:=pow9 hn
 have hgo:=goes_c l o c hc
 have hset:=fun s (hs : s < 512)=>zbc l s (by omega) (by omega)
 have hls : ∀ s,s < 2 ^ l.sacks.length -> Comp Tryz.prog 50 [.sl false (bools (z8 l.sacks.length s))] (slA (bits s)):=fun s hs=>by
  have e:=gy false (z8 l.sacks.length s) (by rw [z5];omega)
  rwa [zc2 hn hs] at e
 have hwt:=fun k hk=>jY l o k hk
 have hbi:=fun s hs=>bits_in (n:=l.sacks.length) (s:=s) hn hs
 have hws:=fun s hs=>wsum_bits (l:=l) o (s:=s) hs
 have hwb : ∀ s,sumW (wts l) s <= 900:=fun s=>by
  have:=qE (wts l) s (zdp o)
  have h2 : (wts l).length = l.sacks.length:=List.length_map _
  omega
 have hBN : jZ l c.toNat = z0 (sumW (wts l)) (yz (zn (zf l)) (2 ^ l.sacks.length) c.toNat) (2 ^ l.sacks.length):=rfl
 rw [hBN]
 clear hBN
 generalize yz (zn (zf l)) (2 ^ l.sacks.length) c.toNat = G at hgo
 generalize sumW (wts l) = W at hws hwb
 refine Comp.body' (T:=tab) (res:=[.tmp 4,.tmp 5]) zb [] Tryz.func78 rfl (by kernel_rfl) Tryz.ntmps78 rfl (by simp only [List.length_cons,List.length_nil];decide) (by simp only [lowL,AV.low,ldL];rfl) ?_;conv=>whnf
 generalize hM : 2 ^ l.sacks.length = M at hp9 hgo hls hbi hws
 have hgl:=yc M G
 have hgg:=fun i hi=>kz (m:=M) (f:=G) (i:=i) hi
 generalize tabR M G = gs at hgo hgl hgg
 have e1 : ((bools gs).length : Int) = M:=by rw [List.length_map,hgl]
 repeat' first|((refine za.ret hgo ?_);conv=>whnf)|fail
 refine Walk.loop zb [] (fun k : Nat=>k <= M) (fun k=>[(2,.pim (ldC l)),(4,.sl true []),(5,.int .i64 0),(6,.sl false (bools gs)),(7,slA (bits (z0 W G k))),(8,natA (W (z0 W G k))),(9,natA k)]) (fun _=>[]) (fun k=>M - k) 0 (Nat.zero_le _) rfl ⟨rfl,rfl,rfl,rfl,rfl,?_,rfl,trivial⟩ ?_
 ·have:=hws 0 (by omega)
  show some (natA 0) = some (natA (W 0))
  have h0 : (W 0 : Int) = 0:=by rw [<- this];rfl
  rw [show W 0 = 0 by omega]
 intro k hk
 have hgk:=hgg k
 have hbs : z0 W G (k + 1) = if better W G (z0 W G k) k = true then k else z0 W G k:=rfl
 have hbe : better W G (z0 W G k) k = (G k && (decide (W (z0 W G k) < W k) || decide (W k = W (z0 W G k)) && decide (cmpL (bits k) (bits (z0 W G k)) < 0))):=rfl
 have hbl:=qO W G k
 have hlt : 0 < k -> z0 W G k < k:=fun h=>zd5 W G h
 have hfin : k = M -> z0 W G k = z0 W G M:=fun h=>by rw [h]
 generalize z0 W G k = b at hbs hbe hbl hlt hfin
 have w1:=hwb k
 have w2:=hwb b
 have l1:=yw k
 have l2:=yw b
 conv=>whnf
 repeat' first|(with_reducible apply XBr.not)|((with_reducible apply XBr.dec) <;> (intro h;first|(exfalso;omega)|((try simp only [List.length_map] at h);first|(exfalso;omega)|(conv=>whnf))))|((first|(with_reducible refine XInt.i64 (by omega) (by omega) ?_)|((with_reducible refine XIx.nat ?_ ?_ ?_);omega;(intro _;rfl))|(refine za.ret (hset k (by omega)) ?_)|(refine za.ret (hls k (by omega)) ?_));conv=>whnf)|((with_reducible apply XBr.mk') <;> (intro h;conv=>whnf))|fail
 ·have hG : G k = true:=by rw [<- hgk (by omega)];exact h
  rw [hG,Bool.true_and] at hbe
  have hb0:=hbi k (by omega)
  have hs0:=hws k (by omega)
  refine Walk.loop zb [] (fun j : Nat=>j <= (bits k).length) (fun j=>[(2,.pim (ldC l)),(4,.sl true []),(5,.int .i64 0),(6,.sl false (bools gs)),(7,slA (bits b)),(8,natA (W b)),(9,natA k),(10,slA (bits k)),(11,.int .i64 (wsum l ((bits k).take j))),(12,natA j)]) (fun _=>[]) (fun j=>(bits k).length - j) 0 (Nat.zero_le _) rfl ⟨rfl,rfl,rfl,rfl,rfl,rfl,rfl,rfl,rfl,rfl,trivial⟩ ?_
  intro j hj
  have hgm:=fun h=>hb0 _ (zu (xs:=bits k) (i:=j) (d:=default) h)
  have hnx:=fun h h'=>wsum_next (l:=l) (is:=bits k) (j:=j) h h'
  have hbd:=wsum_bd o (is:=(bits k).take j) (fun x hx=>hb0 x (List.mem_of_mem_take hx))
  have hbl : ((bits k).take j).length <= 62:=by rw [List.length_take];omega
  have hall : j = (bits k).length -> wsum l ((bits k).take j) = W k:=fun h=>by rw [h,List.take_length];exact hs0
  generalize wsum l ((bits k).take j) = sm at hnx hbd hall
  have ek : ((ints (bits k)).length : Int) = (bits k).length:=by rw [List.length_map]
  conv=>whnf
  repeat' first|((first|(with_reducible apply XBr.tt)|(with_reducible apply XBr.ff));conv=>whnf)|((with_reducible apply XBr.dec) <;> (intro h;first|(exfalso;omega)|((try simp only [List.length_map] at h);first|(exfalso;omega)|(conv=>whnf))))|((with_reducible apply XBr.beq) <;> (intro h;first|(exfalso;omega)|(conv=>whnf)))|((with_reducible refine XInt.i64 (by omega) (by omega) ?_);conv=>whnf)|fail
  ·obtain ⟨i,hi⟩:=Int.eq_ofNat_of_zero_le (hgm (by omega)).1
   have hil:=(hgm (by omega)).2
   rw [hi] at hil hnx
   have hwi:=hwt i (by omega)
   have hwm:=vS o (zu (xs:=l.sacks) (i:=i) (d:=default) (by omega))
   rw [Int.toNat_natCast] at hnx
   generalize zO l (l.sacks.getD i default) = wi at hwi hwm hnx
   apply Walk.drawX zb zk [] [] (hsK _) [_,_,_,_,_,_,_,_,_] (by kernel_rfl) rfl
   ·skip
    repeat' first|((first|(with_reducible refine XInt.i64 (by omega) (by omega) ?_)|((with_reducible refine XIx.nat ?_ ?_ ?_);omega;(intro _;rfl)));conv=>whnf)|(with_reducible apply XAnd.mk)|((first|(with_reducible apply Chk.go)|(with_reducible apply ChkA.go));conv=>whnf)|(exact zg.mk rfl rfl)|(with_reducible exact trivial)|((rw [hi];refine za.ret hwi ?_);conv=>whnf)|fail
   ·skip
    repeat' first|(with_reducible apply XAnd.mk)|((first|(with_reducible apply ChkF.go)|(with_reducible apply ChkB.go));conv=>whnf)|(with_reducible exact trivial)|fail
   conv=>whnf
   repeat' first|((with_reducible refine XInt.i64 (by omega) (by omega) ?_);conv=>whnf)|fail
   refine zh.go (j + 1) (by omega) (by omega) rfl ⟨rfl,rfl,rfl,rfl,rfl,rfl,rfl,rfl,?_,rfl,trivial⟩
   rw [hnx (by omega) (by omega)];rfl
  ·have hs:=hall (by omega)
   rw [decide_eq_true (show W b < W k by omega),Bool.true_or] at hbe
   rw [hbe,if_pos rfl] at hbs
   refine zh.go (k + 1) (by omega) (by omega) rfl ⟨rfl,rfl,rfl,rfl,?_,?_,rfl,trivial⟩
   ·rw [hbs];rfl
   ·rw [hbs,hs];rfl
  ·have hs:=hall (by omega)
   rw [decide_eq_false (show ¬ W b < W k by omega),decide_eq_true (show W k = W b by omega),Bool.false_or,Bool.true_and] at hbe
   refine za.ret (before_c _ _ (bits k) (bits b) (by omega) (by omega)) ?_
   conv=>whnf
   repeat' first|((first|(with_reducible apply XBr.tt)|(with_reducible apply XBr.ff));conv=>whnf)|((with_reducible apply XBr.dec) <;> (intro h;first|(exfalso;omega)|((try simp only [List.length_map] at h);first|(exfalso;omega)|(conv=>whnf))))|((with_reducible refine XInt.i64 (by omega) (by omega) ?_);conv=>whnf)|fail
   ·rw [decide_eq_true h] at hbe
    rw [hbe,if_pos rfl] at hbs
    refine zh.go (k + 1) (by omega) (by omega) rfl ⟨rfl,rfl,rfl,rfl,?_,?_,rfl,trivial⟩
    ·rw [hbs];rfl
    ·rw [hbs,hs];rfl
   ·rw [decide_eq_false h] at hbe
    rw [hbe,if_neg (by simp)] at hbs
    refine zh.go (k + 1) (by omega) (by omega) rfl ⟨rfl,rfl,rfl,rfl,?_,?_,rfl,trivial⟩
    ·rw [hbs];rfl
    ·rw [hbs];rfl
  ·have hs:=hall (by omega)
   rw [decide_eq_false (show ¬ W b < W k by omega),decide_eq_false (show ¬ W k = W b by omega),Bool.false_or,Bool.false_and] at hbe
   rw [hbe,if_neg (by simp)] at hbs
   refine zh.go (k + 1) (by omega) (by omega) rfl ⟨rfl,rfl,rfl,rfl,?_,?_,rfl,trivial⟩
   ·rw [hbs];rfl
   ·rw [hbs];rfl
 ·have hG : G k = false:=by rw [<- hgk (by omega)];exact h
  rw [hG,Bool.false_and] at hbe
  rw [hbe,if_neg (by simp)] at hbs
  refine zh.go (k + 1) (by omega) (by omega) rfl ⟨rfl,rfl,rfl,rfl,?_,?_,rfl,trivial⟩
  ·rw [hbs];rfl
  ·rw [hbs];rfl
 ·rw [<- hfin (by omega)]
  exact ⟨Froz.low (by show AV.low 0 (.tup [slA (bits b),natA (W b)]) = true;simp only [AV.low,lowL,slA,lowI,natA];rfl)⟩
def wB (l : Ld) (b : Int) : Ld:={ l with bears:=b }
theorem bearL_ok {l : Ld} (o : LdOk l) {b : Int} (h : 1 <= b /\ b <= 100) : LdOk (wB l b):=⟨o.n,o.na,o.nw,h.1,h.2,o.s1,o.s2,o.sk,o.ap,o.wp⟩
def jp (l : Ld) (c : Nat) (b : Int) : Bool:=yz (zn (zf (wB l b))) (2 ^ l.sacks.length) c (2 ^ l.sacks.length - 1)
def wN (G : Int -> Bool) : Nat -> Int -> Option Int
 | 0,_=>none
 | f + 1,b=>if G b = true then some b else wN G f (b + 1)
def bigR (l : Ld) (c : Nat) : Option Int:=wN (jp l c) 100 1
theorem zeo (l : Ld) (o : LdOk l) (c : Int) (hc : c <= 100000) : Comp Tryz.prog 79 [ldA l,.int .i64 c] (match bigR l c.toNat with | some b=>.tup [.int .i64 b,.int .i64 0] | none=>.tup [.int .i64 0,.int .i64 6]):=by
 have hn:=o.n
 have hp9:=pow9 hn
 have hgo:=fun b hb=>goes_c (wB l b) (bearL_ok o (b:=b) hb) c hc
 refine Comp.body' (T:=tab) (res:=[.tmp 4,.tmp 5]) zb [] Tryz.func79 rfl (by kernel_rfl) Tryz.ntmps79 rfl (by simp only [List.length_cons,List.length_nil];decide) (by simp only [lowL,AV.low,ldL];rfl) ?_;conv=>whnf
 skip
 refine Walk.loop zb [] (fun k : Nat=>1 <= k /\ k <= 101 /\ bigR l c.toNat = wN (jp l c.toNat) (101 - k) k) (fun k=>[(1,.int .i64 c),(6,.ptr 0 0),(7,natA k)]) (fun k=>[.cells (ldC (if k = 1 then l else wB l (k - 1)))]) (fun k=>101 - k) 1 ⟨by omega,by omega,rfl⟩ rfl ⟨rfl,rfl,rfl,trivial⟩ ?_
 rintro k ⟨hk,hk2,he⟩
 have hck : ∃ b0,ldC (if k = 1 then l else wB l (k - 1)) = .int .i64 b0 :: (ldC l).drop 1:=by
  split
  ·exact ⟨l.bears,rfl⟩
  ·exact ⟨(k : Int) - 1,rfl⟩
 obtain ⟨b0,hck⟩:=hck
 rw [hck]
 conv=>whnf
 repeat' first|((with_reducible apply XBr.dec) <;> (intro h;first|(exfalso;omega)|((try simp only [List.length_map] at h);first|(exfalso;omega)|(conv=>whnf))))|fail
 ·have hg:=hgo k ⟨by omega,by omega⟩
  have hg2 : Comp Tryz.prog 106 [ldA (wB l k),.int .i64 c] (.sl false (bools (tabR (2 ^ l.sacks.length) (yz (zn (zf (wB l k))) (2 ^ l.sacks.length) c.toNat)))):=hg
  have hag : jp l c.toNat k = yz (zn (zf (wB l k))) (2 ^ l.sacks.length) c.toNat (2 ^ l.sacks.length - 1):=rfl
  have hls : wN (jp l c.toNat) (101 - k) k = if jp l c.toNat k = true then some (k : Int) else wN (jp l c.toNat) (101 - (k + 1)) ((k + 1 : Nat) : Int):=by
   rw [show 101 - k = (101 - (k + 1)) + 1 by omega];rfl
  rw [hls] at he
  generalize yz (zn (zf (wB l k))) (2 ^ l.sacks.length) c.toNat = G at hg2 hag
  generalize 2 ^ l.sacks.length = M at hp9 hg2 hag
  have hgl:=yc M G
  have hgg:=kz (m:=M) (f:=G) (i:=M - 1) (by omega)
  generalize tabR M G = gs at hg2 hgl hgg
  have e1 : ((bools gs).length : Int) = M:=by rw [List.length_map,hgl]
  refine za.ret hg2 ?_
  conv=>whnf
  repeat' first|((first|(with_reducible refine XInt.i64 (by omega) (by omega) ?_)|((with_reducible refine XIx.map ?_ ?_ ?_ ?_);omega;omega;(intro _;rfl)));conv=>whnf)|((with_reducible apply XBr.mk') <;> (intro h;conv=>whnf))|fail
  ·have hx : gs.getD (((bools gs).length : Int) - 1).toNat default = true:=h
   rw [show (((bools gs).length : Int) - 1).toNat = M - 1 by omega,hgg,<- hag] at hx
   rw [he,if_pos hx]
   exact ⟨Froz.low rfl⟩
  ·have hx : gs.getD (((bools gs).length : Int) - 1).toNat default = false:=h
   rw [show (((bools gs).length : Int) - 1).toNat = M - 1 by omega,hgg,<- hag] at hx
   rw [if_neg (by rw [hx];simp)] at he
   refine zh.go (k + 1) ⟨by omega,by omega,he⟩ (by omega) ?_ ⟨rfl,rfl,rfl,trivial⟩
   rw [if_neg (by omega),show (((k + 1 : Nat) : Int) - 1) = (k : Int) by omega];rfl
 ·rw [he,show 101 - k = 0 by omega]
  exact ⟨Froz.low rfl⟩
end GA
end
section
namespace GA
open Go Go.RowKit Go.Proofs
def carE (l : Ld) (c : Int) : Int:=if zi l ≠ 0 then zi l else if inB c 0 9 = true then 0 else 3
theorem bestX_c (l : Ld) (c : Int) (o : LdW l) : Comp Tryz.prog 11 [ldA l,.int .i64 c] (if carE l c = 0 then .tup [slA (bits (jZ l c.toNat)),natA (sumW (wts l) (jZ l c.toNat)),.int .i64 0] else .tup [.sl true [],.int .i64 0,.int .i64 (carE l c)]):=by
 have ho:=k9 l o.w o.h1 o.h2 o.h3
 unfold wY at ho
 refine Comp.body' (T:=tab) (res:=[.tmp 4,.tmp 5,.tmp 6]) zb [] Tryz.func11 rfl (by kernel_rfl) Tryz.ntmps11 rfl (by simp only [List.length_cons,List.length_nil];decide) (by simp only [lowL,AV.low,ldL];rfl) ?_;conv=>whnf
 by_cases h0 : zi l = 0
 ·have ok:=(zB l).1 h0
  have hn:=ok.n
  have hp9:=pow9 hn
  have dok:=yG ok
  have hE : carE l c = if inB c 0 9 = true then 0 else 3:=by unfold carE;rw [if_neg (by omega)]
  rw [if_pos h0] at ho
  rw [hE]
  have hac:=fb (zf l) (show (zf l).l.sacks.length <= 9 from hn)
  have hof:=fun set m hs hm=>of_c _ dok 512 set m hs hs hm
  have hom:=fun set m hm=>ji (zf l) 512 set m hm
  have hop:=fun set m hs hm hk=>zcF (zf l) 512 set m hs hs hm hk
  have hgo:=fun s v (hs : s < 2 ^ l.sacks.length) (hc : c.toNat <= 9) (hv : zb8 (zn (zf l)) s v)=>zb2 (R:=zn (zf l)) (c:=c.toNat) hs hc hv
  have hW:=fun s (hs : s < 2 ^ l.sacks.length)=>hv_get (l:=l) ok (c:=s) hs
  have hwb : ∀ s,sumW (wts l) s <= 900:=fun s=>by
   have:=qE (wts l) s (zdp ok)
   have h2 : (wts l).length = l.sacks.length:=List.length_map _
   omega
  have hBN : jZ l c.toNat = z0 (sumW (wts l)) (yz (zn (zf l)) (2 ^ l.sacks.length) c.toNat) (2 ^ l.sacks.length):=rfl
  have hR0:=zaX (zn (zf l))
  rw [hBN]
  clear hBN
  generalize yz (zn (zf l)) (2 ^ l.sacks.length) c.toNat = G at hgo
  generalize sumW (wts l) = W at hW hwb
  have hac2 : Comp Tryz.prog 28 [.pim (zy (zf l))] (.int .i64 ((2 ^ l.sacks.length - 1 : Nat) : Int)):=hac
  clear hac
  have hhv:=dok.hv
  have hnd:=dok.nd
  generalize zn (zf l) = R at hop hgo hR0
  generalize zf l = d at ho hac2 hof hom hop hW hhv hnd
  generalize hM : 2 ^ l.sacks.length = M at hp9 hgo hW hac2
  repeat' first|(with_reducible apply XBr.not)|((with_reducible apply XBr.bne) <;> (intro h;first|(exfalso;omega)|(conv=>whnf)))|((first|(refine za.ret ho ?_)|(refine za.ret (in_c _ _ _) ?_));conv=>whnf)|((with_reducible apply XBr.mk') <;> (intro h;conv=>whnf))|fail
  ·rw [if_pos (by rw [if_pos h])]
   have hc : 0 <= c /\ c <= 9:=zL.1 h
   refine za.inl (T:=tab) (res:=[.cell 2 70]) zb [] Tryz.func27 rfl (by kernel_rfl) Tryz.ntmps27 rfl (by simp only [List.length_append,List.length_cons,List.length_nil];decide) ?_;conv=>whnf
   repeat' first|((first|(with_reducible refine XInt.i64 (by omega) (by omega) ?_)|(refine za.ret hac2 ?_));conv=>whnf)|fail
   refine Walk.loop zb [] (fun p : Nat × List (Int × Nat)=>p.1 <= M /\ MOk p.2 /\ zbX R p.2) (fun p=>[(1,.int .i64 c),(4,.sl true []),(5,.int .i64 0),(6,.int .i64 0),(7,.pim (zy d)),(9,.ptr 4 0),(30,natA M),(10,natA (z0 W G p.1)),(31,natA p.1)])
    (fun p=>[.cells [ofC d 1],.map (esA p.2),.cells [.mp 1],.cells [ofC d 1],.cells [ofC d 1]]) (fun p=>M - p.1) (0,[(0,0)]) ⟨Nat.zero_le _,MOk.zero,hR0⟩ rfl ⟨rfl,rfl,rfl,rfl,rfl,rfl,?_,rfl,rfl,trivial⟩ ?_
   ·exact congrArg (fun n=>some (AV.int .i64 n)) (by omega)
   rintro ⟨k,m⟩ ⟨hk,hm,hmo⟩
   dsimp only at hk hm hmo ⊢
   have hbs : z0 W G (k + 1) = if better W G (z0 W G k) k = true then k else z0 W G k:=rfl
   have hbe : better W G (z0 W G k) k = (G k && (decide (W (z0 W G k) < W k) || decide (W k = W (z0 W G k)) && decide (cmpL (bits k) (bits (z0 W G k)) < 0))):=rfl
   have hbl:=qO W G k
   have hlt : 0 < k -> z0 W G k < k:=fun h=>zd5 W G h
   have hfin : k = M -> z0 W G k = z0 W G M:=fun h=>by rw [h]
   generalize z0 W G k = b at hbs hbe hbl hlt hfin
   have w1:=hwb k
   have w2:=hwb b
   have l1:=yw k
   have l2:=yw b
   conv=>whnf
   repeat' first|((with_reducible apply XBr.dec) <;> (intro h;first|(exfalso;omega)|((try simp only [List.length_map] at h);first|(exfalso;omega)|(conv=>whnf))))|fail
   ·have hWk:=hW k (by omega)
    have hWb:=hW b (by omega)
    have hofk:=hof k m (by omega) hm
    have homk:=hom k m hm
    have hopk:=hop k m (by omega) hm hmo
    have hgk:=hgo k _ (by omega) (by omega) hopk.1
    apply Walk.drawX zb zk [] [] (hsK _) [_,_,_,_,_,_,_,_,_,_,_,_,_,_] (by kernel_rfl) rfl
    ·skip
     repeat' first|((with_reducible refine XInt.i64 (by omega) (by omega) ?_);conv=>whnf)|(with_reducible apply XAnd.mk)|((first|(with_reducible apply Chk.go)|(with_reducible apply ChkA.go));conv=>whnf)|(exact zg.mk rfl rfl)|(with_reducible exact trivial)|(((with_reducible refine XArr.natsA ?_ ?_ ?_);omega;omega);conv=>whnf)|fail
    ·skip
     repeat' first|(with_reducible apply XAnd.mk)|((first|(with_reducible apply ChkF.go)|(with_reducible apply ChkB.go));conv=>whnf)|(with_reducible exact trivial)|fail
    conv=>whnf
    skip
    refine Walk.norm zb [] [(1,.int .i64 c),(4,.sl true []),(5,.int .i64 0),(6,.int .i64 0),(7,.pim (zy d)),(9,.ptr 4 0),(10,natA b),(11,natA k),(12,.int .i64 ((d.hv.getD k 0 : Nat) - (d.hv.getD b 0 : Nat) : Int)),(30,natA M),(31,natA k)] ⟨rfl,rfl,rfl,rfl,rfl,rfl,rfl,rfl,rfl,rfl,rfl,trivial⟩ ?_
    rw [hWk,hWb]
    conv=>whnf
    generalize hq : ofM d 512 k m = q at hofk homk hopk hgk
    have hof2 : (ofM d 512 k m).1 = q.1 /\ (ofM d 512 k m).2 = q.2:=by rw [hq];exact ⟨rfl,rfl⟩
    obtain ⟨v,m2⟩:=q
    dsimp only at hofk homk hopk hgk hof2
    repeat' first|((first|(with_reducible apply XBr.tt)|(with_reducible apply XBr.ff));conv=>whnf)|((with_reducible apply XBr.dec) <;> (intro h;first|(exfalso;omega)|((try simp only [List.length_map] at h);first|(exfalso;omega)|(conv=>whnf))))|((with_reducible apply XBr.beq) <;> (intro h;first|(exfalso;omega)|(conv=>whnf)))|((first|(with_reducible refine XInt.i64 (by omega) (by omega) ?_)|((refine za.of hofk 1 rfl rfl rfl ?_);rw [hof2.1,hof2.2])|(refine za.ret (wK k (by omega)) ?_)|(refine za.ret (wK b (by omega)) ?_)|(refine za.ret (compare_c _ _ (bits k) (bits b) (by omega) (by omega)) ?_));conv=>whnf)|fail
    ·skip
     have hG : G k = true:=by rw [hgk,decide_eq_true_eq];omega
     have hbt : better W G b k = true:=by rw [hbe,hG,decide_eq_true (show W b < W k by omega)];rfl
     rw [hbt,if_pos rfl] at hbs
     refine zh.go (k + 1,m2) ⟨by dsimp only;omega,homk.2,hopk.2⟩ (by dsimp only;omega) rfl ⟨rfl,rfl,rfl,rfl,rfl,rfl,rfl,?_,rfl,trivial⟩
     dsimp only;rw [hbs];rfl
    ·skip
     have hG : G k = true:=by rw [hgk,decide_eq_true_eq];omega
     have hbt : better W G b k = true:=by rw [hbe,hG,decide_eq_true (show W k = W b by omega),decide_eq_true h,Bool.or_comm];rfl
     rw [hbt,if_pos rfl] at hbs
     refine zh.go (k + 1,m2) ⟨by dsimp only;omega,homk.2,hopk.2⟩ (by dsimp only;omega) rfl ⟨rfl,rfl,rfl,rfl,rfl,rfl,rfl,?_,rfl,trivial⟩
     dsimp only;rw [hbs];rfl
    ·skip
     have hG : G k = true:=by rw [hgk,decide_eq_true_eq];omega
     have hbt : better W G b k = false:=by rw [hbe,hG,decide_eq_false (show ¬ W b < W k by omega),decide_eq_false h,Bool.and_false];rfl
     rw [hbt,if_neg (by simp)] at hbs
     refine zh.go (k + 1,m2) ⟨by dsimp only;omega,homk.2,hopk.2⟩ (by dsimp only;omega) rfl ⟨rfl,rfl,rfl,rfl,rfl,rfl,rfl,?_,rfl,trivial⟩
     dsimp only;rw [hbs];rfl
    ·skip
     have hG : G k = true:=by rw [hgk,decide_eq_true_eq];omega
     have hbt : better W G b k = false:=by rw [hbe,hG,decide_eq_false (show ¬ W b < W k by omega),decide_eq_false (show ¬ W k = W b by omega)];rfl
     rw [hbt,if_neg (by simp)] at hbs
     refine zh.go (k + 1,m2) ⟨by dsimp only;omega,homk.2,hopk.2⟩ (by dsimp only;omega) rfl ⟨rfl,rfl,rfl,rfl,rfl,rfl,rfl,?_,rfl,trivial⟩
     dsimp only;rw [hbs];rfl
    ·have hG : G k = false:=by rw [hgk,decide_eq_false_iff_not];omega
     have hbt : better W G b k = false:=by rw [hbe,hG];rfl
     rw [hbt,if_neg (by simp)] at hbs
     refine zh.go (k + 1,m2) ⟨by dsimp only;omega,homk.2,hopk.2⟩ (by dsimp only;omega) rfl ⟨rfl,rfl,rfl,rfl,rfl,rfl,rfl,?_,rfl,trivial⟩
     dsimp only;rw [hbs];rfl
   ·have hkM : k = M:=by omega
    have hWb:=hW b (by have:=hlt (by omega);omega)
    have hb9 : b < M:=by have:=hlt (by omega);omega
    apply Walk.drawX zb zk [] [] (hsK _) [_,_,_,_,_,_,_,_,_,_,_] (by kernel_rfl) rfl
    ·skip
     repeat' first|(with_reducible apply XAnd.mk)|((first|(with_reducible apply Chk.go)|(with_reducible apply ChkA.go));conv=>whnf)|(exact zg.mk rfl rfl)|(with_reducible exact trivial)|((first|((with_reducible refine XArr.natsA ?_ ?_ ?_);omega;omega)|(refine za.ret (wK b (by omega)) ?_));conv=>whnf)|fail
    ·skip
     repeat' first|(with_reducible apply XAnd.mk)|((first|(with_reducible apply ChkF.go)|(with_reducible apply ChkB.go));conv=>whnf)|(with_reducible exact trivial)|fail
    conv=>whnf
    skip
    rw [hWb,hfin hkM]
    exact ⟨Froz.low (by show AV.low 0 (.tup [slA (bits (z0 W G M)),natA (W (z0 W G M)),.int .i64 0]) = true;simp only [AV.low,lowL,slA,lowI,natA];rfl)⟩
  ·rw [if_neg (by rw [if_neg (by rw [h];simp)];decide),if_neg (by rw [h];simp)];exact ⟨Froz.low rfl⟩
 ·have hE : carE l c = zi l:=by unfold carE;rw [if_pos h0]
  rw [if_neg h0] at ho
  rw [hE,if_neg h0]
  generalize zi l = e at h0 ho
  repeat' first|((with_reducible apply XBr.bne) <;> (intro h;first|(exfalso;omega)|(conv=>whnf)))|((refine za.ret ho ?_);conv=>whnf)|fail
  exact ⟨Froz.low rfl⟩
end GA
end
section
namespace GA
open Go Go.RowKit Go.Proofs
def bigL (l : Ld) (b : Int) : Ld:=⟨b,l.shrink,false,l.sacks,l.nla,l.apart,l.nlw,l.wth⟩
theorem bigL_ok {l : Ld} (o : LdOk l) {b : Int} (h : 1 <= b /\ b <= 100) : LdOk (bigL l b):=⟨o.n,o.na,o.nw,h.1,h.2,o.s1,o.s2,o.sk,o.ap,o.wp⟩
theorem zeL {l : Ld} (o : LdOk l) {b : Int} {c : Nat} (hc : c <= 9) (h : 1 <= b /\ b <= 100) : jp l c b = decide (ye (zf (bigL l b)) <= c):=by
 unfold jp
 have ok:=bigL_ok o h
 have e : zn (zf (wB l b)) = zn (zf (bigL l b)):=funext fun s=>by
  have:=kX (wB l b) false l.nla l.nlw s
  exact this.symm
 rw [e]
 have hp:=pow9 o.n
 exact zb2 (by omega) hc (many_opt (zf (bigL l b)) o.n)
theorem biggerX_c (l : Ld) (c : Int) (o : LdW l) : Comp Tryz.prog 80 [ldA l,.int .i64 c] (if carE l c = 0 then (match bigR l c.toNat with | some b=>.tup [.int .i64 b,.int .i64 0] | none=>.tup [.int .i64 0,.int .i64 6]) else .tup [.int .i64 0,.int .i64 (carE l c)]):=by
 have hck:=kS l o.w o.h1 o.h2 o.h3
 refine Comp.body' (T:=tab) (res:=[.tmp 4,.tmp 5]) zb [] Tryz.func80 rfl (by kernel_rfl) Tryz.ntmps80 rfl (by simp only [List.length_cons,List.length_nil];decide) (by simp only [lowL,AV.low,ldL];rfl) ?_;conv=>whnf
 refine Walk.scope zb [] ?_
 conv=>whnf
 by_cases h0 : zi l = 0
 ·have ok:=(zB l).1 h0
  have hn:=ok.n
  have hE : carE l c = if inB c 0 9 = true then 0 else 3:=by unfold carE;rw [if_neg (by omega)]
  rw [h0] at hck
  rw [hE]
  repeat' first|(with_reducible apply XBr.not)|((with_reducible apply XBr.bne) <;> (intro h;first|(exfalso;omega)|(conv=>whnf)))|((first|(refine za.ret hck ?_)|(refine za.ret (in_c _ _ _) ?_));conv=>whnf)|((with_reducible apply XBr.mk') <;> (intro h;conv=>whnf))|fail
  ·rw [if_pos (by rw [if_pos h])]
   have hc : 0 <= c /\ c <= 9:=zL.1 h
   have hbig : bigR l c.toNat = wN (jp l c.toNat) (100 - 0) ((0 : Nat) + 1):=rfl
   refine Walk.label ?_
   conv=>whnf
   skip
   refine Walk.loopF zb [] (fun k : Nat=>k <= 100 /\ bigR l c.toNat = wN (jp l c.toNat) (100 - k) ((k : Int) + 1)) (fun k=>[(1,.int .i64 c),(2,.pim (ldC l)),(4,.int .i64 0),(5,.int .i64 0),(7,.int .i64 0),(21,natA k)]) (fun _=>[]) (fun k=>100 - k) 0 ⟨by omega,hbig⟩ rfl ⟨rfl,rfl,rfl,rfl,rfl,rfl,trivial⟩ (fun _ _ x hx=>by simp at hx) (fun _ _=>Nat.le_refl _) ?_
   rintro k ⟨hk,he⟩
   have e2 : ((l.sacks.map skA).length : Int) = l.sacks.length:=by rw [List.length_map]
   conv=>whnf
   repeat' first|((with_reducible apply XBr.dec) <;> (intro h;first|(exfalso;omega)|((try simp only [List.length_map] at h);first|(exfalso;omega)|(conv=>whnf))))|((with_reducible apply XBr.beq) <;> (intro h;first|(exfalso;omega)|(conv=>whnf)))|fail
   ·have e3 : (((l.sacks.map skA).length : Int)).toNat = l.sacks.length:=by omega
    have hag:=zeL ok (b:=(k : Int) + 1) (c:=c.toNat) (by omega) ⟨by omega,by omega⟩
    have hls : wN (jp l c.toNat) (100 - k) ((k : Int) + 1) = if jp l c.toNat ((k : Int) + 1) = true then some ((k : Int) + 1) else wN (jp l c.toNat) (100 - (k + 1)) (((k + 1 : Nat) : Int) + 1):=by
     rw [show 100 - k = (100 - (k + 1)) + 1 by omega];rfl
    rw [hls] at he
    have bok:=bigL_ok ok (b:=(k : Int) + 1) ⟨by omega,by omega⟩
    have hfe:=few_c (bigL l ((k : Int) + 1)) bok ⟨o.w,o.h1,o.h2,o.h3⟩
    unfold fewA at hfe
    apply Walk.drawX zb zk [] [5,7,9] (fun fl=>match fl with
     | [a,b,x]=>[.cells [.int .i64 (bif b then (k : Int) + 1 else l.bears),.int .i64 l.shrink,(bif x then .gr 1 l.sacks.length else .sl l.nls (l.sacks.map skA)),.sl l.nla (l.apart.map prA),.sl l.nlw (l.wth.map prA)]] ++ (bif a then [.grow 36 false (List.replicate l.sacks.length (skA ⟨0,0⟩))] else [])
     | _=>[]) [_,_,_,_,_,.gr 1 l.sacks.length,_,_,_,_] (by kernel_rfl) rfl
    ·skip
     repeat' first|((with_reducible refine XInt.i64 (by omega) (by omega) ?_);conv=>whnf)|((with_reducible refine zj.mk ?_ ?_);(first | omega | rfl | decide|exact ⟨rfl,by decide,rfl⟩|exact zz _|exact zp _|exact zq _|(unfold Room;constructor <;> ((try simp) <;> omega))|exact ⟨rfl,by simp only [List.length_map],by unfold Room;constructor <;> ((try simp) <;> omega)⟩|exact ⟨by omega,by omega,by unfold Room;constructor <;> ((try simp) <;> omega)⟩);conv=>whnf)|(with_reducible apply XAnd.mk)|((first|(with_reducible apply Chk.go)|(with_reducible apply ChkA.go));conv=>whnf)|(exact zg.mk rfl rfl)|(with_reducible exact trivial)|fail
     refine zg.mk (congrArg (AV.gr 1) e3) ?_
     rw [e3]
     rfl
    ·skip
     repeat' first|((with_reducible refine XInt.i64 (by omega) (by omega) ?_);conv=>whnf)|((with_reducible refine zj.mk ?_ ?_);(first | omega | rfl | decide|exact ⟨rfl,by decide,rfl⟩|exact zz _|exact zp _|exact zq _|(unfold Room;constructor <;> ((try simp) <;> omega))|exact ⟨rfl,by simp only [List.length_map],by unfold Room;constructor <;> ((try simp) <;> omega)⟩|exact ⟨by omega,by omega,by unfold Room;constructor <;> ((try simp) <;> omega)⟩);conv=>whnf)|(with_reducible apply XAnd.mk)|((first|(with_reducible apply Chk.go)|(with_reducible apply ChkF.go)|(with_reducible apply ChkB.go));conv=>whnf)|(exact zg.mk rfl rfl)|(with_reducible exact trivial)|fail
     refine zg.mk (congrArg (AV.gr 1) e3) ?_
     rw [e3]
     rfl
    conv=>whnf
    repeat' first|((with_reducible refine zj.mk ?_ ?_);(first | omega | rfl | decide|exact ⟨rfl,by decide,rfl⟩|exact zz _|exact zp _|exact zq _|(unfold Room;constructor <;> ((try simp) <;> omega))|exact ⟨rfl,by simp only [List.length_map],by unfold Room;constructor <;> ((try simp) <;> omega)⟩|exact ⟨by omega,by omega,by unfold Room;constructor <;> ((try simp) <;> omega)⟩);conv=>whnf)|fail
    refine zj.mk ⟨rfl,by rw [List.length_replicate]⟩ ?_
    conv=>whnf
    refine zcD.mk ?_
    have hsp : splice (List.replicate l.sacks.length (skA ⟨0,0⟩)) 0 ((l.sacks.map skA).take l.sacks.length) = l.sacks.map skA:=by
     rw [List.take_of_length_le (by rw [List.length_map];exact Nat.le_refl _)]
     unfold splice
     rw [List.take_zero,List.nil_append,List.drop_of_length_le (by rw [List.length_replicate,List.length_map];omega),List.append_nil]
    rw [hsp]
    conv=>whnf
    refine za.freezeCell 0 2 1 l.sacks.length (t:=36) (nl:=false) (els:=l.sacks.map skA) rfl rfl rfl (by rw [List.length_map]) (.agg (cs':=ldC (bigL l ((k : Int) + 1))) (by intro x hx;simp only [ldC,List.mem_cons,List.not_mem_nil,or_false] at hx;rcases hx with rfl | rfl | rfl | rfl | rfl <;> rfl) (.same (.same (.gr (.same (.same .nil))))) .nil) ?_
    by_cases hm : 9 < ye (zf (bigL l ((k : Int) + 1)))
    ·rw [if_pos hm] at hfe
     rw [if_neg (by rw [hag,decide_eq_true_eq];omega)] at he
     refine za.ret hfe ?_
     conv=>whnf
     repeat' first|((with_reducible apply XBr.ff);conv=>whnf)|((with_reducible apply XBr.beq) <;> (intro h;first|(exfalso;omega)|(conv=>whnf)))|((with_reducible refine XInt.i64 (by omega) (by omega) ?_);conv=>whnf)|fail
     exact vB.go (k + 1) _ ⟨by omega,he⟩ (by omega) rfl ⟨⟨_,rfl,.same rfl⟩,⟨_,rfl,.same (by simp only [AV.low,jo])⟩,⟨_,rfl,.same rfl⟩,⟨_,rfl,.same rfl⟩,⟨_,rfl,.same rfl⟩,⟨_,rfl,.same rfl⟩,trivial⟩
    ·rw [if_neg hm] at hfe
     generalize hmm : ye (zf (bigL l ((k : Int) + 1))) = mm at hfe hm hag
     refine za.ret hfe ?_
     conv=>whnf
     repeat' first|((with_reducible apply XBr.tt);conv=>whnf)|((with_reducible apply XBr.dec) <;> (intro h;first|(exfalso;omega)|((try simp only [List.length_map] at h);first|(exfalso;omega)|(conv=>whnf))))|((with_reducible apply XBr.beq) <;> (intro h;first|(exfalso;omega)|(conv=>whnf)))|((with_reducible refine XInt.i64 (by omega) (by omega) ?_);conv=>whnf)|fail
     ·rw [if_pos (by rw [hag,decide_eq_true_eq];omega)] at he
      rw [he]
      exact ⟨Froz.low rfl⟩
     ·rw [if_neg (by rw [hag,decide_eq_true_eq];omega)] at he
      exact vB.go (k + 1) _ ⟨by omega,he⟩ (by omega) rfl ⟨⟨_,rfl,.same rfl⟩,⟨_,rfl,.same (by simp only [AV.low,jo])⟩,⟨_,rfl,.same rfl⟩,⟨_,rfl,.same rfl⟩,⟨_,rfl,.same rfl⟩,⟨_,rfl,.same rfl⟩,trivial⟩
   ·rw [he,show 100 - k = 0 by omega]
    exact ⟨Froz.low rfl⟩
  ·rw [if_neg (by rw [if_neg (by rw [h];simp)];decide),if_neg (by rw [h];simp)];exact ⟨Froz.low rfl⟩
 ·have hE : carE l c = zi l:=by unfold carE;rw [if_pos h0]
  rw [hE,if_neg h0]
  generalize zi l = e at h0 hck
  repeat' first|((with_reducible apply XBr.bne) <;> (intro h;first|(exfalso;omega)|(conv=>whnf)))|((refine za.ret hck ?_);conv=>whnf)|fail
  exact ⟨Froz.low rfl⟩
end GA
end
section
namespace GA
open Go Go.RowKit Go.Proofs
def wideB (l : Ld) (n : Int) : Bool:=decide (n < l.sacks.length) && decide (l.sacks.length <= 9)
theorem wide_c (l : Ld) (n : Int) : Comp Tryz.prog 57 [ldA l,.int .i64 n] (.bool (wideB l n)):=by
 have e1 : ((l.sacks.map skA).length : Int) = l.sacks.length:=by rw [List.length_map]
 refine Comp.body (T:=tab) (res:=[.tmp 4]) zb [] Tryz.func57 rfl (by kernel_rfl) Tryz.ntmps57 rfl (by simp only [List.length_cons,List.length_nil];decide) (by simp only [lowL,AV.low,ldL];rfl) ?_;conv=>whnf
 repeat' first|((first|(with_reducible apply XBr.tt)|(with_reducible apply XBr.ff));conv=>whnf)|((with_reducible apply XBr.dec) <;> (intro h;first|(exfalso;omega)|((try simp only [List.length_map] at h);first|(exfalso;omega)|(conv=>whnf))))|fail
 all_goals refine XOut.bool ?_;unfold wideB;rw [Bool.eq_iff_iff];simp;omega
theorem kR (l : Ld) (a b c : Bool) : zn (zf (reL l a b c)) = zn (zf l):=funext fun s=>kX l a b c s
theorem zer (l : Ld) (a b c : Bool) (k : Nat) : jZ (reL l a b c) k = jZ l k:=by unfold jZ;rw [kR];rfl
theorem bigR_re (l : Ld) (a b c : Bool) (k : Nat) : bigR (reL l a b c) k = bigR l k:=by
 have : jp (reL l a b c) k = jp l k:=funext fun x=>by
  unfold jp
  rw [show wB (reL l a b c) x = reL (wB l x) a b c from rfl,kR];rfl
 unfold bigR;rw [this]
set_option maxHeartbeats 2000000 in
theorem zeO (l : Ld) (hw : l.nla = true -> l.apart = []) (c : Int) : Comp Tryz.prog 18 [ldA l,.int .i64 c] (.bool true):=by
 have hgr:=qf l
 have hwi:=wide_c l 6
 refine Comp.body' (T:=tab) (res:=[.tmp 4]) zb [] Tryz.func18 rfl (by kernel_rfl) Tryz.ntmps18 rfl (by simp only [List.length_cons,List.length_nil];decide) (by simp only [lowL,AV.low,ldL];rfl) ?_;conv=>whnf
 by_cases hg : jg l = true
 ·rw [hg] at hgr
  repeat' first|((first|(with_reducible apply XBr.tt)|(refine za.ret hgr ?_)|(refine za.ret zx ?_));conv=>whnf)|fail
  exact XOut.bool rfl
 rw [Bool.not_eq_true] at hg
 rw [hg] at hgr
 by_cases hwd : wideB l 6 = true
 ·rw [hwd] at hwi
  repeat' first|((first|(with_reducible apply XBr.tt)|(with_reducible apply XBr.ff)|(refine za.ret hgr ?_)|(refine za.ret hwi ?_)|(refine za.ret zx ?_));conv=>whnf)|fail
  exact XOut.bool rfl
 rw [Bool.not_eq_true] at hwd
 rw [hwd] at hwi
 have hgl : l.sacks.length <= 14 /\ l.apart.length <= 12 /\ l.wth.length <= 12:=by
  unfold jg at hg
  simp only [Bool.or_eq_false_iff,decide_eq_false_iff_not] at hg
  omega
 have lw : LdW l:=⟨hw,by omega,by omega,by omega⟩
 have how:=own_c l lw
 have hth:=vi l lw
 have hsm:=zao l lw
 have ow : LdW (ownL l):=⟨nofun,lw.h1,lw.h2,lw.h3⟩
 have tw : LdW (thL l):=⟨hw,lw.h1,lw.h2,lw.h3⟩
 repeat' first|((first|(with_reducible apply XBr.ff)|(refine za.ret hgr ?_)|(refine za.ret hwi ?_));conv=>whnf)|fail
 refine Walk.place (Walk.place ?_)
 apply Walk.drawX zb zk [] [4,5,6,7] (fun fl=>match fl with
  | [a,b,x,y]=>[(bif a then .cells (bif x then ldC (ownL l) else [.int .i64 0,.int .i64 0,.sl true [],.sl true [],.sl true []]) else .free),
    (bif b then .cells (bif y then ldC (thL l) else [.int .i64 0,.int .i64 0,.sl true [],.sl true [],.sl true []]) else .free)]
  | _=>[]) [_,_,_,_,.ptr 0 0,.ptr 1 0,_,_] (by kernel_rfl) rfl
 ·skip
  repeat' first|(with_reducible apply XAnd.mk)|((first|(with_reducible apply Chk.go)|(with_reducible apply ChkA.go));conv=>whnf)|(exact zg.mk rfl rfl)|(with_reducible exact trivial)|((first|(refine za.ret how ?_)|(refine za.ret hth ?_));conv=>whnf)|(first|((refine yy.at 0 rfl ?_);(conv=>whnf);exact zg.mk rfl rfl)|((refine yy.at 1 rfl ?_);(conv=>whnf);exact zg.mk rfl rfl))|fail
 ·skip
  repeat' first|(with_reducible apply XAnd.mk)|((first|(with_reducible apply Chk.go)|(with_reducible apply ChkF.go)|(with_reducible apply ChkB.go));conv=>whnf)|(exact zg.mk rfl rfl)|(with_reducible exact trivial)|((first|(refine za.ret how ?_)|(refine za.ret hth ?_));conv=>whnf)|(first|((refine yy.at 0 rfl ?_);(conv=>whnf);exact zg.mk rfl rfl)|((refine yy.at 1 rfl ?_);(conv=>whnf);exact zg.mk rfl rfl))|fail
 conv=>whnf
 have hrc : Comp Tryz.prog 45 [ldA (thL l)] (.int .i64 (zi l)):=kQ (thL l) tw
 have hB:=bestX_c (ownL l) c ow
 have hG:=biggerX_c (ownL l) c ow
 have hE : carE (ownL l) c = if zi l ≠ 0 then zi l else if inB c 0 9 = true then 0 else 3:=rfl
 rw [j2,zer] at hB
 rw [j2,bigR_re] at hG
 rw [<- j2] at hB hG
 by_cases h0 : zi l = 0
 ·have ok:=(zB l).1 h0
  have tok : LdOk (thL l):=zam ok l.sacks.isEmpty l.nla l.nlw
  rw [if_neg (by omega)] at hE
  rw [h0] at hrc
  by_cases hc : inB c 0 9 = true
  ·have hcc:=zL.1 hc
   rw [if_pos hc] at hE
   rw [if_pos hE] at hB hG
   have hrB:=refBest_c (thL l) tok c (by omega)
   have hrG:=zeo (thL l) tok c (by omega)
   rw [w5,zer,<- w5] at hrB
   rw [w5,bigR_re,<- w5] at hrG
   have hb1:=yw (jZ l c.toNat)
   obtain ⟨sm,hsmv⟩ : ∃ sm : Int,sm = (sumW (wts l) (jZ l c.toNat) : Int):=⟨_,rfl⟩
   have hrB2 : Comp Tryz.prog 78 [ldA (thL l),.int .i64 c] (.tup [slA (bits (jZ l c.toNat)),.int .i64 sm]):=by rw [hsmv];exact hrB
   have hB2 : Comp Tryz.prog 11 [ldA (ownL l),.int .i64 c] (.tup [slA (bits (jZ l c.toNat)),.int .i64 sm,.int .i64 0]):=by rw [hsmv];exact hB
   clear hrB hB hsmv
   generalize bits (jZ l c.toNat) = ws at hb1 hrB2 hB2
   have hrB:=hrB2
   have hB:=hB2
   have hws : ws.length <= 100000:=by omega
   clear hrB2 hB2 hE hb1
   cases hbr : bigR l c.toNat with
   | none =>
     rw [hbr] at hG hrG
     dsimp only at hG hrG
     repeat' first|((first|(with_reducible apply XBr.tt)|(with_reducible apply XBr.ff));conv=>whnf)|((with_reducible apply XBr.dec) <;> (intro h;first|(exfalso;omega)|((try simp only [List.length_map] at h);first|(exfalso;omega)|(conv=>whnf))))|((with_reducible apply XBr.beq) <;> (intro h;first|(exfalso;omega)|(conv=>whnf)))|((first|(refine za.ret hrc ?_)|(refine za.ret hrB ?_)|(refine za.ret hrG ?_)|(refine za.ret hB ?_)|(refine za.ret hG ?_));conv=>whnf)|fail
     all_goals first|(exfalso;omega) | skip
     all_goals
      refine Walk.norm zb [] [(2,.pim (ldC l)),(5,.ptr 0 0),(7,.int .i64 0),(8,slA ws),(9,.int .i64 sm),(10,.int .i64 0),(11,.int .i64 6),(12,slA ws),(13,.int .i64 sm),(14,.int .i64 0),(15,.int .i64 0),(16,.int .i64 6)] ⟨rfl,rfl,rfl,rfl,rfl,rfl,rfl,rfl,rfl,rfl,rfl,rfl,trivial⟩ ?_
      conv=>whnf
      repeat' first|((with_reducible apply XBr.tt);conv=>whnf)|((with_reducible apply XBr.beq) <;> (intro h;first|(exfalso;omega)|(conv=>whnf)))|((first|(refine za.ret (eqI _ _ ws hws) ?_)|(refine za.ret hsm ?_)|(refine za.ret zx ?_));conv=>whnf)|fail
      all_goals first|exact XOut.bool rfl|(exfalso;exact absurd rfl (by assumption)) | skip
   | some b =>
     rw [hbr] at hG hrG
     dsimp only at hG hrG
     repeat' first|((first|(with_reducible apply XBr.tt)|(with_reducible apply XBr.ff));conv=>whnf)|((with_reducible apply XBr.dec) <;> (intro h;first|(exfalso;omega)|((try simp only [List.length_map] at h);first|(exfalso;omega)|(conv=>whnf))))|((with_reducible apply XBr.beq) <;> (intro h;first|(exfalso;omega)|(conv=>whnf)))|((first|(refine za.ret hrc ?_)|(refine za.ret hrB ?_)|(refine za.ret hrG ?_)|(refine za.ret hB ?_)|(refine za.ret hG ?_));conv=>whnf)|fail
     all_goals first|(exfalso;omega) | skip
     all_goals
      refine Walk.norm zb [] [(2,.pim (ldC l)),(5,.ptr 0 0),(7,.int .i64 0),(8,slA ws),(9,.int .i64 sm),(10,.int .i64 b),(11,.int .i64 0),(12,slA ws),(13,.int .i64 sm),(14,.int .i64 0),(15,.int .i64 b),(16,.int .i64 0)] ⟨rfl,rfl,rfl,rfl,rfl,rfl,rfl,rfl,rfl,rfl,rfl,rfl,trivial⟩ ?_
      conv=>whnf
      repeat' first|((with_reducible apply XBr.tt);conv=>whnf)|((with_reducible apply XBr.beq) <;> (intro h;first|(exfalso;omega)|(conv=>whnf)))|((first|(refine za.ret (eqI _ _ ws hws) ?_)|(refine za.ret hsm ?_)|(refine za.ret zx ?_));conv=>whnf)|fail
      all_goals first|exact XOut.bool rfl|(exfalso;exact absurd rfl (by assumption)) | skip
  ·rw [if_neg (by rw [Bool.not_eq_true] at hc;rw [hc];simp)] at hE
   rw [if_neg (by omega),hE] at hB hG
   have hcc : ¬ (0 <= c /\ c <= 9):=fun h=>hc (zL.2 h)
   clear hE
   repeat' first|((first|(with_reducible apply XBr.tt)|(with_reducible apply XBr.ff));conv=>whnf)|((with_reducible apply XBr.dec) <;> (intro h;first|(exfalso;omega)|((try simp only [List.length_map] at h);first|(exfalso;omega)|(conv=>whnf))))|((with_reducible apply XBr.beq) <;> (intro h;first|(exfalso;omega)|(conv=>whnf)))|((first|(refine za.ret hrc ?_)|(refine za.ret hB ?_)|(refine za.ret hG ?_));conv=>whnf)|fail
   all_goals first|(exfalso;omega) | skip
   all_goals
    refine Walk.norm zb [] [(2,.pim (ldC l)),(5,.ptr 0 0),(7,.int .i64 3),(8,slA ([] : List Int)),(9,.int .i64 0),(10,.int .i64 0),(11,.int .i64 3),(12,slA ([] : List Int)),(13,.int .i64 0),(14,.int .i64 3),(15,.int .i64 0),(16,.int .i64 3)] ⟨rfl,rfl,rfl,rfl,rfl,rfl,rfl,rfl,rfl,rfl,rfl,rfl,trivial⟩ ?_
    conv=>whnf
    repeat' first|((with_reducible apply XBr.tt);conv=>whnf)|((with_reducible apply XBr.beq) <;> (intro h;first|(exfalso;omega)|(conv=>whnf)))|((first|(refine za.ret (eqI _ _ ([] : List Int) (by decide)) ?_)|(refine za.ret hsm ?_)|(refine za.ret zx ?_));conv=>whnf)|fail
    all_goals first|exact XOut.bool rfl|(exfalso;exact absurd rfl (by assumption)) | skip
 ·rw [if_pos h0] at hE
  rw [if_neg (by omega),hE] at hB hG
  generalize zi l = E at h0 hrc hB hG hE
  clear hE
  repeat' first|((with_reducible apply XBr.ff);conv=>whnf)|((with_reducible apply XBr.beq) <;> (intro h;first|(exfalso;omega)|(conv=>whnf)))|((first|(refine za.ret hrc ?_)|(refine za.ret hB ?_)|(refine za.ret hG ?_));conv=>whnf)|fail
  all_goals first|(exfalso;omega) | skip
  all_goals
   refine Walk.norm zb [] [(2,.pim (ldC l)),(5,.ptr 0 0),(7,.int .i64 E),(8,slA ([] : List Int)),(9,.int .i64 0),(10,.int .i64 0),(11,.int .i64 E),(12,slA ([] : List Int)),(13,.int .i64 0),(14,.int .i64 E),(15,.int .i64 0),(16,.int .i64 E)] ⟨rfl,rfl,rfl,rfl,rfl,rfl,rfl,rfl,rfl,rfl,rfl,rfl,trivial⟩ ?_
   conv=>whnf
   repeat' first|((with_reducible apply XBr.tt);conv=>whnf)|((with_reducible apply XBr.beq) <;> (intro h;first|(exfalso;omega)|(conv=>whnf)))|((first|(refine za.ret (eqI _ _ ([] : List Int) (by decide)) ?_)|(refine za.ret hsm ?_)|(refine za.ret zx ?_));conv=>whnf)|fail
   all_goals first|exact XOut.bool rfl|(exfalso;exact absurd rfl (by assumption)) | skip
end GA
end
section
namespace GA
open Go Go.RowKit
structure XNext (A : Prop) : Prop where
 o : A
def hsU (H : List Blk) : List Bool -> List Blk:=fun _=>H
section
variable {P : Program} {T : Tab} {N : Nat} {ρ : Option Nat} {D : List Nat} {σ : St} {H : List Blk} {Q : Post}
theorem SubX.app : ∀ {K L : List (Nat × AV)} {σ : St},SubX K σ -> SubX L σ -> SubX (K ++ L) σ
 | [],_,_,_,h=>h
 | (_,_) :: _,_,_,h,h2=>⟨h.1,SubX.app h.2 h2⟩
theorem Walk.drawN {ops : List Oper} {id : Nat} (ok : zA P T) (hm : P.follows .mixedOrders = true) (own eff : List Nat) (HS : List Bool -> List Blk) (R : List AV) (hs : Region.lexB .any ops.toArray = true) (hH : HS (eff.map fun _=>false) = H)
  (hA : ChkA P T N own ops eff HS 0 ops R σ) (hB : ChkB P T N own ops eff HS R σ (allF eff.length)) (hk : XNext (Q .normal D (zaw N ops R σ) (HS (eff.map fun j=>Nat.blt j ops.length)))) : Walk P N ρ (.region id ops.toArray true) Q D σ H:=
 Walk.drawX ok hm own eff HS R hs hH hA hB hk.o
theorem Walk.loopK {c : Code} {G : Type} (ok : zA P T) (own : List Nat) (K : List (Nat × AV)) (hK : SubX K σ) (I : G -> Prop) (L : G -> List (Nat × AV)) (hp : G -> List Blk) (μ : G -> Nat) (g0 : G) (h0 : I g0) (hH : hp g0 = H) (hs : SubX (L g0) σ)
  (round : ∀ g,I g -> XRun P T N ρ own c (yW (zh I (fun g=>K ++ L g) hp μ g D) Q) D (stX (K ++ L g)) (hp g)) : Walk P N ρ (.loop c) Q D σ H:=
 Walk.loop ok own I (fun g=>K ++ L g) hp μ g0 h0 hH (hK.app hs) round
theorem Walk.loopGK {c : Code} {G : Type} (ok : zA P T) (own : List Nat) (K : List (Nat × AV)) (hK : SubX K σ) (I : G -> Prop) (L : G -> List (Nat × AV)) (hp : G -> List Blk) (μ : G -> Nat) (g0 : G) (h0 : I g0) (hH : hp g0 = H) (hs : SubX (L g0) σ)
  (hlow : ∀ g,I g -> (∀ x ∈ hp g,x.low (hp g).length = true) /\ ∀ p ∈ K ++ L g,p.2.low (hp g).length = true) (hlen : ∀ g,I g -> (hp g0).length <= (hp g).length)
  (round : ∀ g,I g -> XRun P T N ρ own c (yW (zw I (fun g=>K ++ L g) hp μ g) Q) [] (stX (K ++ L g)) (hp g)) : Walk P N ρ (.loop c) Q [] σ H:=
 Walk.loopG ok own I (fun g=>K ++ L g) hp μ g0 h0 hH (hK.app hs) hlow hlen round
end
section
variable {α : Type}
variable {f : α -> AV}
end
end GA
end
section
namespace GA
open Go Go.RowKit
section
variable {P : Program} {N : Nat} {ρ : Option Nat} {H : List Blk} {σ : St} {D : List Nat}
theorem Walk.run {T : Tab} {c : Code} {Q : Post} (ok : zA P T) (own : List Nat) (x : XRun P T N ρ own c Q D σ H) : Walk P N ρ c Q D σ H:=⟨XRun.sound ok x⟩
end
end GA
end
section
namespace GA
open Go Go.RowKit
section
variable {P : Program} {N : Nat} {ρ : Option Nat} {H : List Blk} {σ : St} {D : List Nat} {Q : Post} {E : Env} {h : Nat -> Option Obj} {β : Nat -> Value} {a : Act} {w : World}
theorem zek (H1 l : List Blk) (L : List (Nat × AV)) (hlow : ∀ x ∈ H1,x.low H1.length = true) (hs : SubF P H1.length (H1 ++ l) L σ) (s : yS P E N h β D σ (H1 ++ l) a w) :
  ∃ h',Ext h β (H1 ++ l) h' β (H1 ++ l.map fun _=>.dead) /\ yS P E N h' β D (stX L) (H1 ++ l.map fun _=>.dead) a w:=by
 have hd : ∀ (l : List Blk) (i : Nat) x,(l.map fun _=>Blk.dead)[i]? = some x -> x = .dead:=fun l i x e=>by
  rw [List.getElem?_map] at e
  cases hx : l[i]? with
  | none=>rw [hx] at e;cases e
  | some y=>rw [hx] at e;cases e;rfl
 have X : Ext h β (H1 ++ l) (yx H1.length h β (H1 ++ l) w) β (H1 ++ l.map fun _=>.dead):=by
  refine ⟨fun b o e=>kE s.sr e,by simp,fun i x x' e e'=>?_⟩
  by_cases hi : i < H1.length
  ·rw [List.getElem?_append_left hi] at e e'
   rw [e] at e';cases e';exact Blk.to_refl _ _ _
  ·rw [List.getElem?_append_right (by omega)] at e'
   have:=hd _ _ _ e'
   subst this
   cases x <;> first | rfl | trivial|exact .inl rfl
 have s1:=s.sr.allN hlow
 have X1 : Ext (yx H1.length h β (H1 ++ l) w) β H1 (yx H1.length h β (H1 ++ l) w) β (H1 ++ l.map fun _=>.dead):=
  ⟨fun _ _ e=>e,by simp,fun i x x' e e'=>by rw [List.getElem?_append_left (List.getElem?_eq_some_iff.1 e).1,e] at e';cases e';exact Blk.to_refl _ _ _⟩
 have hbo : ∀ i b,blkOf β (H1 ++ l.map fun _=>.dead) i = some b -> blkOf β H1 i = some b:=fun i b e=>by
  have hlt:=(yr e).1
  by_cases hi : i < H1.length
  ·rw [<- e];exact (yK rfl (List.getElem?_append_left hi)).symm
  ·exfalso
   unfold blkOf at e
   cases hx : (H1 ++ l.map fun _=>Blk.dead)[i]? with
   | none=>rw [hx] at e;cases e
   | some x =>
     rw [hx] at e
     rw [List.getElem?_append_right (by omega)] at hx
     have:=hd _ _ _ hx
     subst this;cases e
 have s2 : SR P E (yx H1.length h β (H1 ++ l) w) β (H1 ++ l.map fun _=>.dead) w:=by
  refine s1.grown X1 s1.env s1.imm (fun i x e=>?_) (fun i j b e1 e2=>s1.own i j b (hbo _ _ e1) (hbo _ _ e2)) (fun i b e=>s1.fresh i b (hbo _ _ e)) s1.frm (fun i b e=>s1.fro i b (hbo _ _ e))
  by_cases hi : i < H1.length
  ·rw [List.getElem?_append_left hi] at e;exact .inl ⟨e,rfl,fun _ _=>rfl⟩
  ·rw [List.getElem?_append_right (by omega)] at e
   have:=hd _ _ _ e
   subst this;exact .inr trivial
 refine ⟨_,X,⟨s2,fun t r e=>?_,s.size,s.df.ext X⟩⟩
 obtain ⟨r0,e1,e2⟩:=qL hs t r e
 obtain ⟨v,h1,h2⟩:=s.fits t r0 e1
 rcases e2 with e2 | ⟨rfl,e2⟩
 ·exact ⟨v,h1,e2 E h β w s.sr v h2 _⟩
 ·refine ⟨v,h1,X1.rep (Rep.cut (l:=l) ?_ e2)⟩
  have XA : Ext h β (H1 ++ l) (yx H1.length h β (H1 ++ l) w) β (H1 ++ l):=⟨fun b o e=>kE s.sr e,Nat.le_refl _,fun i x x' e e'=>by rw [e] at e';cases e';exact Blk.to_refl _ _ _⟩
  exact XA.rep h2
structure w8 (P : Program) (σ : St) (H : List Blk) (k : St -> List Blk -> Prop) : Prop where
 o : ∃ (H1 l : List Blk) (L : List (Nat × AV)),H1 ++ l = H /\ (∀ x ∈ H1,x.low H1.length = true) /\ SubF P H1.length H L σ /\ k (stX L) (H1 ++ l.map fun _=>.dead)
theorem w8.go {k : St -> List Blk -> Prop} (H1 l : List Blk) (L : List (Nat × AV)) (hH : H1 ++ l = H) (hlow : ∀ x ∈ H1,x.low H1.length = true) (hs : SubF P H1.length H L σ) (x : k (stX L) (H1 ++ l.map fun _=>.dead)) : w8 P σ H k:=⟨H1,l,L,hH,hlow,hs,x⟩
def keepQ (P : Program) (Q : Post) : Post
 | .exit id,D,σ,H=>w8 P σ H (Q (.exit id) D)
 | e,D,σ,H=>Q e D σ H
theorem Walk.thenKeep {c : Code} (x : Walk P N ρ c (keepQ P Q) D σ H) : Walk P N ρ c Q D σ H:=by
 constructor
 intro E h β a w s
 refine wpIn_mono (x.o E h β a w s) fun e a' w' hc=>?_
 obtain ⟨D',σ',H',h',β',q,X,s'⟩:=hc
 cases e with
 | exit id =>
   obtain ⟨H1,l,L,rfl,hlow,hs,q⟩:=q.o
   obtain ⟨h'',X1,s1⟩:=zek H1 l L hlow hs s'
   exact ⟨D',_,_,h'',β',q,X.trans X1,s1⟩
 | _=>exact ⟨D',σ',H',h',β',q,X,s'⟩
theorem zeB {h : Nat -> Option Obj} {β : Nat -> Value} {H : List Blk} {w : World} : yx 0 h β H w = hall h β H w:=by
 funext b
 by_cases hx : ∃ i,blkOf β H i = some b
 ·obtain ⟨i,hi⟩:=hx
  rw [zbP (Nat.zero_le i) hi]
  unfold hall;rw [if_pos ⟨i,hi⟩]
 ·unfold yx hall
  rw [if_neg hx,if_neg (fun ⟨i,_,h⟩=>hx ⟨i,h⟩)]
theorem Froz.n0 {r r' : AV} (f : Froz P H r r') : zaM P 0 H r r':=fun E h β w s v hr H1=>by
 rw [zeB]
 exact (f E h β w s v hr).none
theorem q7.all {r r' : AV} (f : Froz P H r r') : q7 P 0 H r r':=.inl f.n0
end
end GA
end
section
namespace GA
open Go Go.RowKit
section
variable {P : Program} {N : Nat} {ρ : Option Nat} {H : List Blk} {σ : St} {D : List Nat} {Q : Post}
theorem Comp.bodyW {T : Tab} {f : FuncId} {fn : Func} {c : Code} {rs : List AV} {res : List ResultVar} {r0 : AV} (ok : zA P T) (own : List Nat) (hf : P.funcs[f]? = some fn) (hb : fn.body = some c) (hn : (fn.name == "runtime.NumGoroutine") = false)
  (hN : fn.ntmps = N) (hr : fn.results = res.toArray) (hl : rs.length <= N) (hlo : lowL 0 rs = true) (x : Walk P N none c (XFn P T res r0) [] (argX rs) []) : Comp P f rs r0:=by
 refine ⟨hlo,?_⟩
 obtain ⟨h1,h2⟩:=yo.inl0 (k:=fun r H=>XOut P H r r0) ok own hf hb hn hN hr hl (AWp.mono x.o (fun e D σ H q=>by
  unfold XFn at q
  split at q
  ·exact q
  ·exact q
  ·exact q.elim))
 refine ⟨h1,fun E h β w vs s hrs=>(h2 E h β w vs s hrs).mono ?_⟩
 rintro e w' ⟨r,H',h',β',v,rfl,hk,X,s',hrep⟩
 exact ⟨r0,[],hall h' β' H' w',β',v,rfl,⟨rfl,rfl⟩,⟨fun b o eb=>wE s' (X.imm b o eb),Nat.le_refl _,by simp⟩,s'.all,hk.o E h' β' w' s' v hrep⟩
end
end GA
end
section
namespace GA
open Go Go.RowKit
def lexP (A : Array Oper) : Nat -> List Oper -> Bool
 | _,[]=>true
 | k,o :: l=>o.after.toList.all (fun e=>!Region.binds .any e || Nat.blt e.on k) && l.all (fun oj=>oj.after.toList.any (fun e=>Region.binds .any e && Nat.beq e.on k) || o.apart A oj) && lexP A (k + 1) l
theorem zdP {ops : List Oper} : ∀ (l : List Oper) (k : Nat) (listed : Array Bool),(∀ j,l[j]? = ops[k + j]?) -> k + l.length = ops.length -> listed.size = ops.length -> (∀ j,listed.getD j true = decide (j < k \/ ops.length <= j)) -> lexP ops.toArray k l = true -> Region.lexFrom .any ops.toArray l.length k listed = true
 | [],k,listed,hl,hk,hs,hL,h=>by
   rw [List.length_nil,Region.lexFrom,List.isEmpty_iff]
   refine List.eq_nil_iff_forall_not_mem.2 fun j hj=>?_
   obtain ⟨h1,o,ho,-⟩:=mem_ready.1 hj
   have hlt : j < ops.length:=by simpa using (Array.getElem?_eq_some_iff.1 ho).1
   rw [hL,decide_eq_false_iff_not] at h1
   rw [List.length_nil] at hk
   omega
 | o :: l,k,listed,hl,hk,hs,hL,h=>by
   simp only [lexP,Bool.and_eq_true] at h
   obtain ⟨⟨h1,h2⟩,h3⟩:=h
   have h0 : ops[k]? = some o:=by have:=hl 0;simpa using this.symm
   have hkl : k < ops.length:=(List.getElem?_eq_some_iff.1 h0).1
   rw [List.length_cons] at hk
   simp only [List.length_cons,Region.lexFrom,Bool.and_eq_true]
   refine ⟨⟨?_,?_⟩,?_⟩
   ·rw [List.contains_iff_mem]
    refine mem_ready.2 ⟨by rw [hL,decide_eq_false_iff_not];omega,o,by simpa using h0,fun e he hb=>?_⟩
    have h4:=List.all_eq_true.1 h1 e (by simpa using he)
    rw [hb] at h4
    simp only [Bool.not_true,Bool.false_or] at h4
    have h5 : e.on < k:=Nat.blt_eq.mp h4
    have h6:=hL e.on
    rw [decide_eq_true (.inl h5)] at h6
    have h7 : e.on < listed.size:=by omega
    simp only [Array.getD,h7,dite_true] at h6 ⊢
    exact h6
   ·unfold Region.free
    rw [show ops.toArray[k]? = some o by simpa using h0]
    dsimp only
    rw [List.all_eq_true]
    intro j hj
    have hjl : j < ops.length:=by simpa using hj
    by_cases hjk : j < k \/ ops.length <= j
    ·rw [hL,decide_eq_true hjk];simp
    ·by_cases he : j = k
     ·rw [he];simp
     ·have hj2 : l[j - k - 1]? = ops[j]?:=by
       have:=hl (j - k)
       rw [show k + (j - k) = j by omega] at this
       rw [<- this,show j - k = (j - k - 1) + 1 by omega,List.getElem?_cons_succ]
       simp
      have hoj : ops[j]? = some ops[j]:=List.getElem?_eq_getElem hjl
      rw [hoj] at hj2
      have hm:=List.mem_of_getElem? hj2
      have h4:=List.all_eq_true.1 h2 _ hm
      rw [show ops.toArray[j]? = some ops[j] by simp [hjl]]
      dsimp only
      rw [Bool.or_eq_true] at h4
      rcases h4 with h4 | h4
      ·obtain ⟨e,he1,he2⟩:=List.any_eq_true.1 h4
       have h5 : (ops[j].after.any fun e=>Region.binds .any e && e.on == k) = true:=by
        rw [Array.any_eq_true']
        refine ⟨e,by simpa using he1,?_⟩
        rw [Bool.and_eq_true] at he2 ⊢
        exact ⟨he2.1,by rw [beq_iff_eq];exact Nat.eq_of_beq_eq_true he2.2⟩
       rw [h5];simp
      ·rw [h4];simp
   ·refine zdP l (k + 1) _ (fun j=>?_) (by omega) (by simpa using hs) (fun j=>?_) h3
    ·have:=hl (j + 1)
     rw [List.getElem?_cons_succ] at this
     rw [this];congr 1;omega
    ·by_cases hjk : k = j
     ·subst hjk
      have h7 : k < listed.size:=by omega
      rw [decide_eq_true (.inl (by omega))]
      simp [h7]
     ·rw [getD_set_ne true hjk,hL]
      congr 1
      simp only [eq_iff_iff]
      omega
theorem zaO {ops : List Oper} (h : (Region.noSelect ops.toArray && lexP ops.toArray 0 ops) = true) : Region.lexB .any ops.toArray = true:=by
 rw [Bool.and_eq_true] at h
 simp only [Region.lexB,Bool.and_eq_true]
 refine ⟨h.1,?_⟩
 have:=zdP (ops:=ops) ops 0 (Array.replicate ops.toArray.size false) (fun j=>by rw [Nat.zero_add]) (by simp) (by simp) (fun j=>?_) h.2
 ·simpa using this
 ·by_cases hj : j < ops.length
  ·rw [decide_eq_false (by omega)]
   simp [hj]
  ·rw [decide_eq_true (.inr (by omega))]
   simp [hj]
end GA
end
section
namespace GA
open Go Go.RowKit
def tailC : Nat -> Code -> Code
 | n + 1,.seq _ b=>tailC n b
 | _,c=>c
def theC : Option Code -> Code
 | some c=>c
 | none=>.skip
theorem kY {id : Nat} {K : List Nat -> St -> List Blk -> Prop} {Q : Post} {D : List Nat} {σ : St} {H : List Blk} (h : K D σ H) : zaG id (yW K Q) (.exit id) D σ H:=by
 show (match Nat.beq id id with | true=>yW K Q .normal D σ H | false=>yW K Q (.exit id) D σ H)
 rw [Nat.beq_refl];exact h
end GA
end
section
namespace GA
open Go Go.RowKit
section
variable {P : Program} {T : Tab} {N : Nat} {ρ : Option Nat} {D : List Nat} {σ : St} {H : List Blk} {Q : Post}
theorem Walk.weak {c : Code} (L : List (Nat × AV)) (hs : SubX L σ) (x : Walk P N ρ c Q D (stX L) H) : Walk P N ρ c Q D σ H:=⟨AWp.weaken (yN hs) x.o⟩
theorem Walk.loopGKW {c : Code} {G : Type} (K : List (Nat × AV)) (hK : SubX K σ) (I : G -> Prop) (L : G -> List (Nat × AV)) (hp : G -> List Blk) (μ : G -> Nat) (g0 : G) (h0 : I g0) (hH : hp g0 = H) (hs : SubX (L g0) σ)
  (hlow : ∀ g,I g -> (∀ x ∈ hp g,x.low (hp g).length = true) /\ ∀ p ∈ K ++ L g,p.2.low (hp g).length = true) (hlen : ∀ g,I g -> (hp g0).length <= (hp g).length)
  (round : ∀ g,I g -> Walk P N ρ c (yW (zw I (fun g=>K ++ L g) hp μ g) Q) [] (stX (K ++ L g)) (hp g)) : Walk P N ρ (.loop c) Q [] σ H:=by
 constructor
 have hst : ∀ (l : List (Nat × AV)) t r,stX l t = some r -> (t,r) ∈ l:=by
  intro l;induction l with
  | nil=>intro t r h;cases h
  | cons p l ih =>
    obtain ⟨u,x⟩:=p
    intro t r h;simp only [stX,yZ,upd] at h
    split at h
    ·rename_i e;cases h;subst e;exact List.mem_cons_self
    ·exact List.mem_cons_of_mem _ (ih t r h)
 refine AWp.loopG (G:={g : G // I g}) (fun g=>stX (K ++ L g.1)) (fun g=>hp g.1) (fun g=>μ g.1) ⟨g0,h0⟩ (yN (hK.app hs)) hH rfl (fun g=>⟨(hlow g.1 g.2).1,fun t r e=>(hlow g.1 g.2).2 (t,r) (hst _ _ _ e)⟩) (fun g=>hlen g.1 g.2) fun g=>?_
 refine (round g.1 g.2).o.mono fun e D' σ' H' q=>?_
 cases e with
 | normal=>obtain ⟨h1,g',l,h2,h3,h4,h5⟩:=q;exact ⟨h1,⟨g',h2⟩,l,h3,h4,yN h5⟩
 | _=>exact q
end
end GA
end
section
namespace GA
open Go Go.RowKit
structure XGo (P : Program) (N : Nat) (ρ : Option Nat) (c : Code) (Q : Post) (D : List Nat) (σ : St) (H : List Blk) : Prop where
 o : Walk P N ρ c Q D σ H
def qr (P : Program) (T : Tab) (N : Nat) (ρ : Option Nat) (own : List Nat) : Code -> Post -> List Nat -> St -> List Blk -> Prop
 | .skip,Q,D,σ,H=>Q .normal D σ H
 | .exit id,Q,D,σ,H=>Q (.exit id) D σ H
 | .ret,Q,D,σ,H=>Q .ret D σ H
 | .seq a b,Q,D,σ,H=>qr P T N ρ own a (yW (XGo P N ρ b Q) Q) D σ H
 | .cond c x y,Q,D,σ,H=>bnd (ev σ c) fun r=>match r with | .bool b=>XBr b (XGo P N ρ x Q D σ H) (XGo P N ρ y Q D σ H) | _=>False
 | .block id b,Q,D,σ,H=>XGo P N ρ b (zaG id Q) D σ H
 | .region id ops false,Q,D,σ,H=>match manyG 12 ops.toList with | true=>Walk P N ρ (.region id ops false) Q D σ H | false=>XReg P T N own ops.toList ops.toList σ H (Q .normal D)
 | c,Q,D,σ,H=>Walk P N ρ c Q D σ H
section
variable {P : Program} {T : Tab} {N : Nat} {ρ : Option Nat} {own : List Nat}
theorem qr.sound (ok : zA P T) : ∀ {c : Code} {Q : Post} {D : List Nat} {σ : St} {H : List Blk},qr P T N ρ own c Q D σ H -> AWp P N ρ c Q D σ H
 | .skip,_,_,_,_,x=>.skip x
 | .exit _,_,_,_,_,x=>.exit x
 | .ret,_,_,_,_,x=>.ret x
 | .seq a b,Q,_,_,_,x=>.seq (AWp.mono (Q:=yW (XGo P N ρ b Q) Q) (qr.sound ok (c:=a) x) fun e D σ H q=>by
   cases e with
   | normal=>exact q.o.o
   | _=>exact q)
 | .cond c _ _,_,_,_,_,x=>by
   obtain ⟨r,h1,h2⟩:=zd x
   split at h2
   ·exact .cond h1 (fun h=>(h2.t h).o.o) (fun h=>(h2.f h).o.o)
   ·exact h2.elim
 | .block id b,Q,D,σ,H,x=>.block (by rw [<- zbA];exact x.o.o)
 | .region id ops false,Q,D,σ,H,x=>by
   unfold qr at x
   split at x
   ·exact x.o
   ·exact .regionX ok x
 | .region _ _ true,_,_,_,_,x=>x.o
 | .loop _,_,_,_,_,x=>x.o
 | .rangeFunc ..,_,_,_,_,x=>x.o
 | .scope _,_,_,_,_,x=>x.o
 | .label _,_,_,_,_,x=>x.o
 | .goto _,_,_,_,_,x=>x.o
 | .refuse _,_,_,_,_,x=>x.o
theorem XGo.go {c : Code} {Q : Post} {D : List Nat} {σ : St} {H : List Blk} (ok : zA P T) (own : List Nat) (x : qr P T N ρ own c Q D σ H) : XGo P N ρ c Q D σ H:=⟨⟨qr.sound ok x⟩⟩
theorem Walk.step {c : Code} {Q : Post} {D : List Nat} {σ : St} {H : List Blk} (ok : zA P T) (own : List Nat) (x : qr P T N ρ own c Q D σ H) : Walk P N ρ c Q D σ H:=⟨qr.sound ok x⟩
theorem XGo.at {c : Code} {Q : Post} {D : List Nat} {σ : St} {H : List Blk} (L : List (Nat × AV)) (hs : SubX L σ) (x : Walk P N ρ c Q D (stX L) H) : XGo P N ρ c Q D σ H:=⟨.weak L hs x⟩
end
end GA
end
section
namespace GA
open Go Go.RowKit
theorem XBr.y {p : Prop} [Decidable p] {A B : Prop} (x : p -> A) (h : p:=by first | omega|(simp only [List.length_map];omega)) : XBr (decide p) A B:=.yes (decide_eq_true h) (x h)
theorem XBr.n {p : Prop} [Decidable p] {A B : Prop} (x : ¬ p -> B) (h : ¬ p:=by first | omega|(simp only [List.length_map];omega)) : XBr (decide p) A B:=.no (decide_eq_false h) (x h)
theorem XBr.y1 {a b : Int} {A B : Prop} (x : a = b -> A) (h : a = b:=by omega) : XBr (a == b) A B:=.yes (beq_iff_eq.2 h) (x h)
theorem XBr.n1 {a b : Int} {A B : Prop} (x : a ≠ b -> B) (h : a ≠ b:=by omega) : XBr (a == b) A B:=.no (beq_eq_false_iff_ne.2 h) (x h)
theorem XBr.y2 {a b : Int} {A B : Prop} (x : a ≠ b -> A) (h : a ≠ b:=by omega) : XBr (a != b) A B:=.yes (bne_iff_ne.2 h) (x h)
theorem XBr.n2 {a b : Int} {A B : Prop} (x : a = b -> B) (h : a = b:=by omega) : XBr (a != b) A B:=.no (by rw [h];exact bne_self_eq_false b) (x h)
theorem XInt.a {x : Int} {k : AV -> Prop} (y : k (.int .i64 x)) (l : -9223372036854775808 <= x:=by omega) (u : x <= 9223372036854775807:=by omega) : XInt .i64 x k:=.i64 l u y
theorem zj.a {p A : Prop} (x : A) (h : p:=by first | omega | rfl | decide|exact ⟨rfl,by decide,rfl⟩|exact zz _|(unfold Room;constructor <;> ((try simp) <;> omega))|exact ⟨rfl,by simp only [List.length_map],by unfold Room;constructor <;> ((try simp) <;> omega)⟩|exact ⟨by omega,by omega,by unfold Room;constructor <;> ((try simp) <;> omega)⟩|fail) : zj p A:=⟨h,x⟩
theorem XIx.a {α : Type} [Inhabited α] {f : α -> AV} {xs : List α} {i w : Nat} {k : AV -> Prop} (x : k (.pim (f (xs.getD i default)).cells)) (h : i < xs.length:=by omega) (hw : ∀ x,(f x).cells.length = w:=by intro _;rfl) : XIx (xs.map f) (i : Int) w k:=.nat h hw x
theorem XIx.b {α : Type} [Inhabited α] {f : α -> AV} {xs : List α} {n : Int} {w : Nat} {k : AV -> Prop} (x : k (.pim (f (xs.getD n.toNat default)).cells)) (h1 : 0 <= n:=by omega) (h2 : n < xs.length:=by omega) (hw : ∀ x,(f x).cells.length = w:=by intro _;rfl) : XIx (xs.map f) n w k:=.map h1 h2 hw x
end GA
end
section
namespace GA
open Go Go.RowKit Go.Proofs
def nowR (s : List Nat) (c i : Nat) : List Nat:=(if c = s.length then s ++ [0] else s).set c ((if c = s.length then s ++ [0] else s).getD c 0 + 2 ^ i)
def seaR (R : Nat -> Bool) (most : Nat) : Nat -> List Nat -> List Nat -> Option (List Nat)
 | 0,b,s=>if s.all R = true then some b else none
 | f + 1,b,s=>(List.range (min (s.length + 1) most)).findSome? fun c=>seaR R most f (b ++ [c]) (nowR s c b.length)
structure SeaS (b s : List Nat) : Prop where
 l : s.length <= b.length
 m : ∀ x ∈ s,x < 2 ^ b.length
theorem nowR_ok {b s : List Nat} {c : Nat} (h : SeaS b s) (hc : c <= s.length) : SeaS (b ++ [c]) (nowR s c b.length):=by
 have hp : 2 ^ (b ++ [c]).length = 2 ^ b.length + 2 ^ b.length:=by rw [List.length_append,List.length_singleton,Nat.pow_succ];omega
 have h0 : 0 < 2 ^ b.length:=Nat.pow_pos (by omega)
 have hm : ∀ x ∈ (if c = s.length then s ++ [0] else s),x < 2 ^ b.length:=fun x hx=>by
  split at hx
  ·rcases List.mem_append.1 hx with hx | hx
   ·exact h.m x hx
   ·rw [List.mem_singleton] at hx;omega
  ·exact h.m x hx
 refine ⟨?_,fun x hx=>?_⟩
 ·unfold nowR
  rw [List.length_set,List.length_append,List.length_singleton]
  have:=h.l
  split
  ·rw [List.length_append,List.length_singleton];omega
  ·omega
 ·unfold nowR at hx
  rcases List.mem_or_eq_of_mem_set hx with hx | rfl
  ·have:=hm x hx;omega
  ·have : (if c = s.length then s ++ [0] else s).getD c 0 < 2 ^ b.length:=by
    rw [List.getD_eq_getElem?_getD]
    cases e : (if c = s.length then s ++ [0] else s)[c]? with
    | none=>exact h0
    | some v=>exact hm v (List.mem_of_getElem? e)
   omega
def optA : Option (List Nat) -> AV
 | some o=>.sl false (nats o)
 | none=>.sl true []
theorem fc {α : Type} {f : Nat -> Option α} {n : Nat} (h : ∀ i,i < n -> f i = none) : (List.range n).findSome? f = none:=by
 rw [List.findSome?_eq_none_iff]
 intro x hx
 exact h x (List.mem_range.1 hx)
theorem qm {α : Type} {f : Nat -> Option α} {n i : Nat} {v : α} (hi : i < n) (h : ∀ j,j < i -> f j = none) (hv : f i = some v) : (List.range n).findSome? f = some v:=by
 have e : List.range n = List.range i ++ (i :: (List.range n).drop (i + 1)):=by
  have h1 : (List.range n).take i = List.range i:=by rw [List.take_range,Nat.min_eq_left (by omega)]
  have h2 : (List.range n).drop i = i :: (List.range n).drop (i + 1):=by
   rw [List.drop_eq_getElem_cons (by rw [List.length_range];exact hi),List.getElem_range]
  rw [<- h1,<- h2,List.take_append_drop]
 rw [e,List.findSome?_append,fc h,List.findSome?_cons,hv];rfl
theorem yj (xs : List Nat) : (nats xs).length = xs.length:=List.length_map _
theorem XIx.tab {M : Nat} {R : Nat -> Bool} {v : Nat} {k : AV -> Prop} (hv : v < M) (h : k (.pim [.bool (R v)])) : XIx (bools (tabR M R)) (v : Int) 1 k:=XIx.nat (by rw [yc];exact hv) (fun _=>rfl) (by rw [kz hv];exact h)
theorem wideN (xs : List Nat) : wide 1 (nats xs) = true:=wC (f:=natA) (n:=1) (fun _=>rfl) (fun _=>rfl) xs
theorem Walk.toH {P : Program} {N : Nat} {ρ : Option Nat} {c : Code} {Q : Post} {D : List Nat} {σ : St} {H : List Blk} (H' : List Blk) (h : H = H') (x : Walk P N ρ c Q D σ H') : Walk P N ρ c Q D σ H:=h ▸ x
def yi (s : List Nat) (c : Nat) : List Nat:=if c = s.length then s ++ [0] else s
theorem zdD {b s : List Nat} (h : SeaS b s) (c : Nat) : (yi s c).getD c default < 2 ^ b.length:=by
 have h0 : 0 < 2 ^ b.length:=Nat.pow_pos (by omega)
 rw [List.getD_eq_getElem?_getD]
 cases e : (yi s c)[c]? with
 | none=>exact h0
 | some v =>
   have hx:=List.mem_of_getElem? e
   unfold yi at hx
   split at hx
   ·rcases List.mem_append.1 hx with hx | hx
    ·exact h.m v hx
    ·rw [List.mem_singleton] at hx;subst hx;exact h0
   ·exact h.m v hx
set_option maxHeartbeats 1000000 in
theorem zdK (l : Ld) (R : Nat -> Bool) (m : Nat) (hn : l.sacks.length <= 9) (hm : m <= 100) : ∀ (f : Nat) (b s : List Nat) (nlb nls : Bool),b.length + f = l.sacks.length -> SeaS b s -> (f = 0 -> nlb = false) ->
  Comp Tryz.prog 99 [ldA l,.sl false (bools (tabR (2 ^ l.sacks.length) R)),.sl nlb (nats b),.sl nls (nats s),natA m] (optA (seaR R m f b s))
 | 0,b,s,nlb,nls,hb,hs,hnl=>by
   have e1 : ((nats b).length : Int) = b.length:=by rw [yj]
   have e2 : ((nats s).length : Int) = s.length:=by rw [yj]
   have e3 : ((l.sacks.map skA).length : Int) = l.sacks.length:=by rw [List.length_map]
   have e4 : ((bools (tabR (2 ^ l.sacks.length) R)).length : Int) = (2 ^ l.sacks.length : Nat):=by rw [List.length_map,yc]
   obtain rfl:=hnl rfl
   have hml:=hs.m
   have hsl:=hs.l
   rw [show b.length = l.sacks.length by omega] at hml
   refine Comp.body (T:=tab) (res:=[.tmp 10]) zb [] Tryz.func99 rfl (by kernel_rfl) Tryz.ntmps99 rfl (by simp only [List.length_cons,List.length_nil];decide) (by simp only [lowL,AV.low,ldL,jI,lowN];rfl) ?_;conv=>whnf
   repeat' ((with_reducible first|refine XBr.y1 fun h=>?_|refine XBr.n1 fun h=>?_|refine XBr.beq (fun h=>?_) fun h=>?_) <;> conv=>whnf)
   refine Walk.loopK zb [] [(1,_),(2,_),(3,_),(4,_),(5,_),(11,_)] ⟨rfl,rfl,rfl,rfl,rfl,rfl,trivial⟩ (fun c : Nat=>c <= s.length /\ ∀ j,j < c -> R (s.getD j 0) = true) (fun c=>[(10,.sl true []),(12,natA c)]) (fun _=>[]) (fun c=>s.length - c) 0 ⟨Nat.zero_le _,fun j h=>by omega⟩ rfl ⟨rfl,rfl,trivial⟩ ?_
   rintro c ⟨hc,hall⟩
   conv=>whnf
   by_cases hlt : c < s.length
   ·have hv:=hml _ (zu (xs:=s) (i:=c) (d:=default) hlt)
    cases hR : R (s.getD c default) with
    | true =>
      repeat' first|((with_reducible first|apply XBr.tt|refine XBr.y fun h=>?_|refine XBr.n fun h=>?_|refine XBr.dec (fun h=>?_) fun h=>?_|refine XInt.a ?_) <;> conv=>whnf)|(refine XIx.a ?_;conv=>whnf) | with_reducible apply XBr.not|(((refine XIx.tab hv ?_);rw [hR]);conv=>whnf)|fail
      refine zh.go (c + 1) ⟨by omega,fun j hj=>?_⟩ (by omega) rfl ⟨rfl,rfl,rfl,rfl,rfl,rfl,rfl,rfl,trivial⟩
      by_cases e : j = c
      ·subst e;exact hR
      ·exact hall j (by omega)
    | false =>
      have hso : seaR R m 0 b s = none:=by
       unfold seaR
       rw [if_neg]
       intro h
       rw [List.all_eq_true] at h
       rw [h _ (zu (xs:=s) (i:=c) (d:=default) hlt)] at hR;cases hR
      rw [hso]
      repeat' first|((with_reducible first|apply XBr.ff|refine XBr.y fun h=>?_|refine XBr.n fun h=>?_|refine XBr.dec (fun h=>?_) fun h=>?_) <;> conv=>whnf)|(refine XIx.a ?_;conv=>whnf) | with_reducible apply XBr.not|(((refine XIx.tab hv ?_);rw [hR]);conv=>whnf)|fail
      exact ⟨.low rfl⟩
   obtain rfl : c = s.length:=by omega
   have hso : seaR R m 0 b s = some b:=by
    unfold seaR
    rw [if_pos]
    rw [List.all_eq_true]
    intro x hx
    obtain ⟨j,hj,rfl⟩:=List.mem_iff_getElem.1 hx
    have:=hall j hj
    rwa [List.getD_eq_getElem?_getD,List.getElem?_eq_getElem hj] at this
   rw [hso]
   repeat' ((with_reducible first|refine XBr.y fun h=>?_|refine XBr.n fun h=>?_|refine XBr.dec (fun h=>?_) fun h=>?_) <;> conv=>whnf)
   exact ⟨.low (lowN b)⟩
 | f + 1,b,s,nlb,nls,hb,hs,_=>by
   have ih:=zdK l R m hn hm f
   have e1 : ((nats b).length : Int) = b.length:=by rw [yj]
   have e2 : ((nats s).length : Int) = s.length:=by rw [yj]
   have e3 : ((l.sacks.map skA).length : Int) = l.sacks.length:=by rw [List.length_map]
   have hml:=hs.m
   have hsl:=hs.l
   have hsh : (1 : Int) * 2 ^ (min ((nats b).length : Int).toNat IntKind.i64.bits) = ((2 ^ b.length : Nat) : Int):=by rw [e1];exact kw (by omega)
   have hp : 2 ^ b.length <= 2 ^ 9:=Nat.pow_le_pow_right (by omega) (by omega)
   refine Comp.body (T:=tab) (res:=[.tmp 10]) zb [49,71] Tryz.func99 rfl (by kernel_rfl) Tryz.ntmps99 rfl (by simp only [List.length_cons,List.length_nil];decide) (by simp only [lowL,AV.low,ldL,jI,lowN];rfl) ?_;conv=>whnf
   repeat' ((with_reducible first|refine XBr.y1 fun h=>?_|refine XBr.n1 fun h=>?_|refine XBr.beq (fun h=>?_) fun h=>?_) <;> conv=>whnf)
   refine Walk.loopGK zb [] [(1,_),(2,_),(3,_),(4,_),(5,_),(11,_)] ⟨rfl,rfl,rfl,rfl,rfl,rfl,trivial⟩ (fun c : Nat=>c <= min (s.length + 1) m /\ ∀ j,j < c -> seaR R m f (b ++ [j]) (nowR s j b.length) = none) (fun c=>[(10,.sl true []),(13,natA c)]) (fun _=>[]) (fun c=>s.length + 1 - c) 0 ⟨Nat.zero_le _,fun j h=>by omega⟩ rfl ⟨rfl,rfl,trivial⟩ ?_ (fun _ _=>Nat.le_refl _) ?_
   ·intro c _
    refine ⟨fun z hz=>(by cases hz),fun z hz=>?_⟩
    simp only [List.cons_append,List.nil_append,List.mem_cons,List.not_mem_nil,or_false] at hz
    rcases hz with rfl | rfl | rfl | rfl | rfl | rfl | rfl | rfl <;> first | rfl|exact lowN _|exact jI _|exact ldL _
   rintro c ⟨hc,hall⟩
   conv=>whnf
   by_cases hlt : c <= s.length /\ c < m
   ·have hbl : (nats b).length ≠ (List.map skA l.sacks).length:=by rw [List.length_map];omega
    by_cases e : c = s.length
    ·have hT : nats s ++ [AV.int .i64 0] = nats (yi s c):=by unfold yi;rw [if_pos e,nats,nats,List.map_append];rfl
     have hTl : (yi s c).length = s.length + 1:=by unfold yi;rw [if_pos e,List.length_append];rfl
     repeat' first|((with_reducible first|apply XBr.tt|refine XBr.y fun h=>?_|refine XBr.n fun h=>?_|refine XBr.dec (fun h=>?_) fun h=>?_|refine XBr.y1 fun h=>?_|refine XBr.n1 fun h=>?_|refine XBr.beq (fun h=>?_) fun h=>?_) <;> conv=>whnf)|((first|refine zj.a ?_|refine zj.mk (wideN s) ?_);conv=>whnf)|fail
     refine Walk.toH [.grow 3 false (nats (yi s c))] (by rw [<- hT];rfl) ?_
     have hTn : (nats (yi s c)).length = (nats s).length + 1:=by rw [yj,hTl,yj]
     have hcT : c < (yi s c).length:=by omega
     have hsum : (((yi s c).getD (c : Int).toNat default : Nat) : Int) + 1 * 2 ^ (min ((nats b).length : Int).toNat IntKind.i64.bits) = (((yi s c).getD c default + 2 ^ b.length : Nat) : Int):=by rw [hsh,Int.toNat_natCast];omega
     have e2n:=yj s
     have e4n:=yj (yi s c)
     have hTb:=nowR_ok hs hlt.1
     have hgT : (yi s c).getD c default < 2 ^ b.length:=zdD hs c
     have hns : (yi s c).set c ((yi s c).getD c default + 2 ^ b.length) = nowR s c b.length:=rfl
     repeat' first|((with_reducible first|refine XInt.a ?_|apply Chk.go|apply ChkA.go|apply ChkF.go|apply ChkB.go|apply XNext.mk);conv=>whnf)|(refine zj.a ?_;conv=>whnf)|(with_reducible first|apply XAnd.mk|exact trivial)|(exact zg.mk rfl rfl)|(apply Walk.drawN (id:=15) zb zk [49,71] [10] (hsC [_,_]) [_,_,_,_,_,_,_,_,_,_,_] (by kernel_rfl) rfl)|((first|(refine zj.mk ⟨hTn,rfl,by omega,(by first | omega|(simp only [List.length_cons,List.length_nil];omega))⟩ ?_)|(refine XGet.map (by first | omega|(simp only [List.length_cons,List.length_nil];omega)) (by first | omega|(simp only [List.length_cons,List.length_nil];omega)) ?_)|(refine XPut.map (α:=Nat) ((yi s c).getD c default + 2 ^ b.length) (congrArg (AV.int .i64) hsum) (by first | omega|(simp only [List.length_cons,List.length_nil];omega)) (by first | omega|(simp only [List.length_cons,List.length_nil];omega)) ?_));conv=>whnf)|fail
     refine Walk.freeze 14 0 _ rfl rfl (by (try rw [List.length_map,List.length_set]);first | omega|(simp only [List.length_cons,List.length_nil];omega)) ?_
     have hih:=ih (b ++ [c]) (nowR s c b.length) false false (by rw [List.length_append,List.length_singleton];omega) hTb (fun _=>rfl)
     have hfl : (nats (b ++ [c])).length = (nats b).length + 1:=by rw [yj,yj,List.length_append];rfl
     have hcat : nats (b ++ [c]) = nats b ++ [natA c]:=List.map_append
     apply Walk.drawX zb zk [71] [2,4,7,10] (hsC [[.dead],
      [.dead,.grow 3 false []],
      [.dead,.grow 3 false (nats b)],
      [.dead,.grow 3 false (nats (b ++ [c]))],
      [.dead,.dead]]) [_,_,_,_,_,_,_,_,_,_,_,_] (by kernel_rfl) rfl
     ·skip
      repeat' first|((with_reducible first|apply Chk.go|apply ChkA.go);conv=>whnf)|(refine zj.a ?_;conv=>whnf)|(with_reducible first|apply XAnd.mk|exact trivial)|(exact zg.mk rfl rfl)|(exact zg.mk (by first | rfl|(simp only [List.map_append,List.length_append,List.length_map];done)|(simp only [List.map_append,List.length_append,List.length_map];rfl)) (by first | rfl|(simp only [List.map_append];done)|(simp only [List.map_append];rfl)))|((first|(refine zj.mk (wideN _) ?_)|((refine za.freeze 1 (0 + (nats b).length + 1) rfl (by rw [hfl];omega) (.same (.same (.gr (.same (.same .nil))))) ?_);(refine za.ret hih ?_)));conv=>whnf)|fail
     ·skip
      repeat' first|((with_reducible first|apply Chk.go|apply ChkF.go|apply ChkB.go);conv=>whnf)|(refine zj.a ?_;conv=>whnf)|(with_reducible first|apply XAnd.mk|exact trivial)|(exact zg.mk rfl rfl)|fail
     cases hq : seaR R m f (b ++ [c]) (nowR s c b.length) with
     | none =>
       conv=>whnf
       repeat' first|((with_reducible first|apply XBr.tt|refine XInt.a ?_);conv=>whnf) | with_reducible apply XBr.not|fail
       refine zw.go (c + 1) [.dead,.dead] ⟨by omega,fun j hj=>?_⟩ (by omega) rfl ⟨rfl,rfl,rfl,rfl,rfl,rfl,rfl,rfl,trivial⟩
       by_cases ej : j = c
       ·rw [ej];exact hq
       ·exact hall j (by omega)
     | some o =>
       have hres : seaR R m (f + 1) b s = some o:=qm (i:=c) (by omega) hall hq
       rw [hres]
       conv=>whnf
       repeat' first|((with_reducible apply XBr.ff);conv=>whnf) | with_reducible apply XBr.not|fail
       exact ⟨.low (lowN o)⟩
    ·have hT : yi s c = s:=by unfold yi;rw [if_neg e]
     repeat' first|((with_reducible first|apply XBr.tt|refine XBr.y fun h=>?_|refine XBr.n fun h=>?_|refine XBr.dec (fun h=>?_) fun h=>?_|refine XBr.y1 fun h=>?_|refine XBr.n1 fun h=>?_|refine XBr.beq (fun h=>?_) fun h=>?_) <;> conv=>whnf)|((first|refine zj.a ?_|refine zj.mk (wideN s) ?_);conv=>whnf)|fail
     refine Walk.toH [.grow 3 false (nats (yi s c))] (by rw [hT]) ?_
     have hTn : (nats (yi s c)).length = (nats s).length:=by rw [hT]
     have hcT : c < (yi s c).length:=by rw [hT];omega
     have hsum : (((yi s c).getD (c : Int).toNat default : Nat) : Int) + 1 * 2 ^ (min ((nats b).length : Int).toNat IntKind.i64.bits) = (((yi s c).getD c default + 2 ^ b.length : Nat) : Int):=by rw [hsh,Int.toNat_natCast];omega
     have e2n:=yj s
     have e4n:=yj (yi s c)
     have hTb:=nowR_ok hs hlt.1
     have hgT : (yi s c).getD c default < 2 ^ b.length:=zdD hs c
     have hns : (yi s c).set c ((yi s c).getD c default + 2 ^ b.length) = nowR s c b.length:=rfl
     repeat' first|((with_reducible first|refine XInt.a ?_|apply Chk.go|apply ChkA.go|apply ChkF.go|apply ChkB.go|apply XNext.mk);conv=>whnf)|(refine zj.a ?_;conv=>whnf)|(with_reducible first|apply XAnd.mk|exact trivial)|(exact zg.mk rfl rfl)|(apply Walk.drawN (id:=15) zb zk [49,71] [10] (hsC [_,_]) [_,_,_,_,_,_,_,_,_,_,_] (by kernel_rfl) rfl)|((first|(refine zj.mk ⟨hTn,rfl,by omega,(by first | omega|(simp only [List.length_cons,List.length_nil];omega))⟩ ?_)|(refine XGet.map (by first | omega|(simp only [List.length_cons,List.length_nil];omega)) (by first | omega|(simp only [List.length_cons,List.length_nil];omega)) ?_)|(refine XPut.map (α:=Nat) ((yi s c).getD c default + 2 ^ b.length) (congrArg (AV.int .i64) hsum) (by first | omega|(simp only [List.length_cons,List.length_nil];omega)) (by first | omega|(simp only [List.length_cons,List.length_nil];omega)) ?_));conv=>whnf)|fail
     refine Walk.freeze 14 0 _ rfl rfl (by (try rw [List.length_map,List.length_set]);first | omega|(simp only [List.length_cons,List.length_nil];omega)) ?_
     have hih:=ih (b ++ [c]) (nowR s c b.length) false false (by rw [List.length_append,List.length_singleton];omega) hTb (fun _=>rfl)
     have hfl : (nats (b ++ [c])).length = (nats b).length + 1:=by rw [yj,yj,List.length_append];rfl
     have hcat : nats (b ++ [c]) = nats b ++ [natA c]:=List.map_append
     apply Walk.drawX zb zk [71] [2,4,7,10] (hsC [[.dead],
      [.dead,.grow 3 false []],
      [.dead,.grow 3 false (nats b)],
      [.dead,.grow 3 false (nats (b ++ [c]))],
      [.dead,.dead]]) [_,_,_,_,_,_,_,_,_,_,_,_] (by kernel_rfl) rfl
     ·skip
      repeat' first|((with_reducible first|apply Chk.go|apply ChkA.go);conv=>whnf)|(refine zj.a ?_;conv=>whnf)|(with_reducible first|apply XAnd.mk|exact trivial)|(exact zg.mk rfl rfl)|(exact zg.mk (by first | rfl|(simp only [List.map_append,List.length_append,List.length_map];done)|(simp only [List.map_append,List.length_append,List.length_map];rfl)) (by first | rfl|(simp only [List.map_append];done)|(simp only [List.map_append];rfl)))|((first|(refine zj.mk (wideN _) ?_)|((refine za.freeze 1 (0 + (nats b).length + 1) rfl (by rw [hfl];omega) (.same (.same (.gr (.same (.same .nil))))) ?_);(refine za.ret hih ?_)));conv=>whnf)|fail
     ·skip
      repeat' first|((with_reducible first|apply Chk.go|apply ChkF.go|apply ChkB.go);conv=>whnf)|(refine zj.a ?_;conv=>whnf)|(with_reducible first|apply XAnd.mk|exact trivial)|(exact zg.mk rfl rfl)|fail
     cases hq : seaR R m f (b ++ [c]) (nowR s c b.length) with
     | none =>
       conv=>whnf
       repeat' first|((with_reducible first|apply XBr.tt|refine XInt.a ?_);conv=>whnf) | with_reducible apply XBr.not|fail
       refine zw.go (c + 1) [.dead,.dead] ⟨by omega,fun j hj=>?_⟩ (by omega) rfl ⟨rfl,rfl,rfl,rfl,rfl,rfl,rfl,rfl,trivial⟩
       by_cases ej : j = c
       ·rw [ej];exact hq
       ·exact hall j (by omega)
     | some o =>
       have hres : seaR R m (f + 1) b s = some o:=qm (i:=c) (by omega) hall hq
       rw [hres]
       conv=>whnf
       repeat' first|((with_reducible apply XBr.ff);conv=>whnf) | with_reducible apply XBr.not|fail
       exact ⟨.low (lowN o)⟩
   have hres : seaR R m (f + 1) b s = none:=fc (fun i hi=>hall i (by omega))
   rw [hres]
   by_cases hcs : c <= s.length
   ·skip
    repeat' ((with_reducible first|apply XBr.tt|refine XBr.y fun h=>?_|refine XBr.n fun h=>?_|refine XBr.dec (fun h=>?_) fun h=>?_) <;> conv=>whnf)
    exact ⟨.low rfl⟩
   ·skip
    repeat' ((with_reducible first|apply XBr.ff|refine XBr.y fun h=>?_|refine XBr.n fun h=>?_|refine XBr.dec (fun h=>?_) fun h=>?_) <;> conv=>whnf)
    exact ⟨.low rfl⟩
end GA
end
section
namespace GA
open Go Go.RowKit Go.Proofs
def fewO (R : Nat -> Bool) (n : Nat) : Option (List Nat × Nat):=(List.range n).findSome? fun m=>(seaR R (m + 1) n [] []).map fun o=>(o,m + 1)
theorem qX {α β : Type} {f : Nat -> Option α} {g : α -> Nat -> β} {n : Nat} (h : ∀ i,i < n -> f i = none) : ((List.range n).findSome? fun m=>(f m).map fun o=>g o m) = none:=by
 rw [List.findSome?_eq_none_iff]
 intro x hx
 rw [h x (List.mem_range.1 hx)];rfl
theorem zbm {α β : Type} {f : Nat -> Option α} {g : α -> Nat -> β} {n i : Nat} {v : α} (hi : i < n) (h : ∀ j,j < i -> f j = none) (hv : f i = some v) : ((List.range n).findSome? fun m=>(f m).map fun o=>g o m) = some (g v i):=by
 have e : List.range n = List.range i ++ (i :: (List.range n).drop (i + 1)):=by
  have h1 : (List.range n).take i = List.range i:=by rw [List.take_range,Nat.min_eq_left (by omega)]
  have h2 : (List.range n).drop i = i :: (List.range n).drop (i + 1):=by
   rw [List.drop_eq_getElem_cons (by rw [List.length_range];exact hi),List.getElem_range]
  rw [<- h1,<- h2,List.take_append_drop]
 rw [e,List.findSome?_append,qX h,List.findSome?_cons,hv];rfl
def optF : Option (List Nat × Nat) -> AV
 | some (o,m)=>.tup [.sl false (nats o),natA m]
 | none=>.tup [.sl true [],.int .i64 (-1)]
def fewZ (R : Nat -> Bool) (n : Nat) : AV:=if n = 0 then .tup [.sl true [],.int .i64 0] else optF (fewO R n)
theorem zdT (l : Ld) (o : LdOk l) : Comp Tryz.prog 58 [ldA l] (fewZ (zn (zf l)) l.sacks.length):=by
 have e3 : ((l.sacks.map skA).length : Int) = l.sacks.length:=by rw [List.length_map]
 have hc:=vo l o
 have hn:=o.n
 generalize zn (zf l) = R at hc
 refine Comp.body (T:=tab) (res:=[.tmp 2,.tmp 3]) zb [] Tryz.func58 rfl (by kernel_rfl) Tryz.ntmps58 rfl (by simp only [List.length_cons,List.length_nil];decide) (by simp only [lowL,AV.low,ldL];rfl) ?_;conv=>whnf
 unfold fewZ
 by_cases h0 : l.sacks.length = 0
 ·rw [if_pos h0]
  repeat' ((with_reducible first|refine XBr.y1 fun h=>?_|refine XBr.n1 fun h=>?_|refine XBr.beq (fun h=>?_) fun h=>?_) <;> conv=>whnf)
  exact ⟨.low rfl⟩
 rw [if_neg h0]
 repeat' first|((with_reducible first|refine XBr.y1 fun h=>?_|refine XBr.n1 fun h=>?_|refine XBr.beq (fun h=>?_) fun h=>?_) <;> conv=>whnf)|((refine za.ret hc ?_);conv=>whnf)|fail
 refine Walk.loopK zb [] [(1,_),(4,_)] ⟨rfl,rfl,trivial⟩ (fun k : Nat=>k <= l.sacks.length /\ ∀ j,j < k -> seaR R (j + 1) l.sacks.length [] [] = none) (fun k=>[(2,.sl true []),(3,.int .i64 0),(5,natA (k + 1))]) (fun _=>[]) (fun k=>l.sacks.length - k) 0 ⟨Nat.zero_le _,fun j h=>by omega⟩ rfl ⟨rfl,rfl,rfl,trivial⟩ ?_
 rintro k ⟨hk,hall⟩
 conv=>whnf
 by_cases hlt : k < l.sacks.length
 ·have hs:=zdK l R (k + 1) (by omega) (by omega) l.sacks.length [] [] true true (by rw [List.length_nil];omega) ⟨Nat.le_refl _,fun x hx=>by cases hx⟩ (fun h=>absurd h h0)
  cases hq : seaR R (k + 1) l.sacks.length [] [] with
  | none =>
    rw [hq] at hs
    repeat' first|((with_reducible first|apply XBr.tt|refine XBr.y fun h=>?_|refine XBr.n fun h=>?_|refine XBr.dec (fun h=>?_) fun h=>?_|refine XInt.a ?_) <;> conv=>whnf) | with_reducible apply XBr.not|((refine za.ret hs ?_);conv=>whnf)|fail
    refine zh.go (k + 1) ⟨by omega,fun j hj=>?_⟩ (by omega) rfl ⟨rfl,rfl,rfl,rfl,rfl,trivial⟩
    by_cases ej : j = k
    ·rw [ej];exact hq
    ·exact hall j (by omega)
  | some v =>
    rw [hq] at hs
    have hres : fewO R l.sacks.length = some (v,k + 1):=zbm (i:=k) hlt hall hq
    rw [hres]
    repeat' first|((with_reducible first|apply XBr.ff|refine XBr.y fun h=>?_|refine XBr.n fun h=>?_|refine XBr.dec (fun h=>?_) fun h=>?_) <;> conv=>whnf) | with_reducible apply XBr.not|((refine za.ret hs ?_);conv=>whnf)|fail
    exact ⟨.low (by show AV.low 0 (.tup [.sl false (nats v),natA (k + 1)]) = true;simp only [AV.low,lowL,lowN,natA];rfl)⟩
 ·have hres : fewO R l.sacks.length = none:=qX (fun i hi=>hall i (by omega))
  rw [hres]
  repeat' ((with_reducible first|refine XBr.y fun h=>?_|refine XBr.n fun h=>?_|refine XBr.dec (fun h=>?_) fun h=>?_) <;> conv=>whnf)
  exact ⟨.low rfl⟩
set_option maxHeartbeats 1000000 in
theorem zbL (l : Ld) (o : LdOk l) (p : Pr) (nl : Bool) (hp : zD l p = 0) : Comp Tryz.prog 60 [ldA l,.int .i64 p.unit,.sl nl (ints p.ps)] (.bool (yR (zf l) p)):=by
 obtain ⟨g1,g2,g3,g4⟩:=wa hp
 have hn:=o.n
 have hp9:=pow9 hn
 have hc:=vo l o
 have hset:=fun s (hs : s < 512)=>zbc l s (by omega) (by omega)
 have hls : ∀ s,s < 2 ^ l.sacks.length -> Comp Tryz.prog 50 [.sl false (bools (z8 l.sacks.length s))] (slA (bits s)):=fun s hs=>by
  have e:=gy false (z8 l.sacks.length s) (by rw [z5];omega)
  rwa [zc2 hn hs] at e
 have hbi:=fun s hs=>bits_in (n:=l.sacks.length) (s:=s) hn hs
 have hFB : yR (zf l) p = (List.range (2 ^ l.sacks.length)).all fun s=>!(decide (p.unit < yJ p (bits s)) && zn (zf l) s):=rfl
 rw [hFB]
 clear hFB
 generalize zn (zf l) = R at hc
 refine Comp.body (T:=tab) (res:=[.tmp 6]) zb [] Tryz.func60 rfl (by kernel_rfl) Tryz.ntmps60 rfl (by simp only [List.length_cons,List.length_nil];decide) (by simp only [lowL,AV.low,ldL,lowI];rfl) ?_;conv=>whnf
 generalize hM : 2 ^ l.sacks.length = M at hp9 hc hls hbi
 have hgl:=yc M R
 have hgg:=fun i hi=>kz (m:=M) (f:=R) (i:=i) hi
 generalize tabR M R = gs at hc hgl hgg
 have e1 : ((bools gs).length : Int) = M:=by rw [List.length_map,hgl]
 have e2 : ((ints p.ps).length : Int) = p.ps.length:=by rw [List.length_map]
 repeat' ((refine za.ret hc ?_);conv=>whnf)
 refine Walk.loopK zb [] [(1,_),(2,_),(3,_),(7,_)] ⟨rfl,rfl,rfl,rfl,trivial⟩ (fun s : Nat=>s <= M /\ ∀ k,k < s -> (decide (p.unit < yJ p (bits k)) && R k) = false) (fun s=>[(6,.bool false),(8,natA s)]) (fun _=>[]) (fun s=>M - s) 0 ⟨Nat.zero_le _,fun k hk=>by omega⟩ rfl ⟨rfl,rfl,trivial⟩ ?_
 rintro s ⟨h1,h2⟩
 have hgs:=hgg s
 conv=>whnf
 by_cases hlt : s < M
 ·skip
  repeat' first|((with_reducible first|refine XBr.y fun h=>?_|refine XBr.n fun h=>?_|refine XBr.dec (fun h=>?_) fun h=>?_) <;> conv=>whnf)|((first|refine za.ret (hset s (by omega)) ?_|refine za.ret (hls s hlt) ?_);conv=>whnf)|fail
  have hbb:=hbi s hlt
  have hbl:=yw s
  refine Walk.loopK zb [] [(1,_),(2,_),(3,_),(6,_),(7,_),(8,_),(10,_)] ⟨rfl,rfl,rfl,rfl,rfl,rfl,rfl,trivial⟩ (fun j : Nat=>j <= (bits s).length) (fun j=>[(9,.int .i64 (yJ p ((bits s).take j))),(11,natA j)]) (fun _=>[]) (fun j=>(bits s).length - j) 0 (Nat.zero_le _) rfl ⟨rfl,rfl,trivial⟩ ?_
  intro j hj
  have hb:=gv g4 ((bits s).take j)
  have hl : ((bits s).take j).length <= 62:=by rw [List.length_take];omega
  have hnx:=fun h=>g9 p (is:=bits s) (j:=j) h
  have hall : j = (bits s).length -> (bits s).take j = bits s:=fun h=>by rw [h,List.take_length]
  have ek : ((ints (bits s)).length : Int) = (bits s).length:=by rw [List.length_map]
  conv=>whnf
  by_cases hjl : j < (bits s).length
  ·have hv:=hbb _ (zu (xs:=bits s) (i:=j) (d:=default) hjl)
   have hv2:=g4 _ (zu (xs:=p.ps) (i:=((bits s).getD j default).toNat) (d:=default) (by omega))
   have hv3 : p.ps.getD ((bits s).getD j default).toNat default = p.ps.getD ((bits s).getD j default).toNat 0:=rfl
   repeat' first|((with_reducible first|refine XBr.y fun h=>?_|refine XBr.n fun h=>?_|refine XBr.dec (fun h=>?_) fun h=>?_|refine XInt.a ?_) <;> conv=>whnf)|((first|refine XIx.a ?_|refine XIx.b ?_);conv=>whnf)|fail
   refine zh.go (j + 1) (by omega) (by omega) rfl ⟨rfl,rfl,rfl,rfl,rfl,rfl,rfl,?_,rfl,trivial⟩
   rw [hnx hjl];rfl
  ·have hje:=hall (by omega)
   rw [hje]
   have hGR:=hgs hlt
   repeat' first|((with_reducible first|apply XBr.tt|apply XBr.ff|refine XBr.y fun h=>?_|refine XBr.n fun h=>?_|refine XBr.dec (fun h=>?_) fun h=>?_|refine XInt.a ?_) <;> conv=>whnf)|(refine XIx.a ?_;conv=>whnf)|((with_reducible refine XBr.mk' (fun h=>?_) fun h=>?_) <;> conv=>whnf)|fail
   ·have hR : R s = true:=by rw [<- hGR];assumption
    have hu : p.unit < yJ p (bits s):=by omega
    have hf : ((List.range M).all fun s=>!(decide (p.unit < yJ p (bits s)) && R s)) = false:=by
     rw [List.all_eq_false]
     exact ⟨s,List.mem_range.2 hlt,by rw [hR,decide_eq_true hu];simp⟩
    rw [hf]
    exact ⟨.low rfl⟩
   ·have hu : ¬ p.unit < yJ p (bits s):=by omega
    refine zh.go (s + 1) ⟨by omega,fun k hk=>?_⟩ (by omega) rfl ⟨rfl,rfl,rfl,rfl,rfl,rfl,trivial⟩
    rcases Nat.lt_or_ge k s with h5 | h5
    ·exact h2 k h5
    ·rw [show k = s by omega,decide_eq_false hu,Bool.false_and]
   ·have hR : R s = false:=by rw [<- hGR];assumption
    refine zh.go (s + 1) ⟨by omega,fun k hk=>?_⟩ (by omega) rfl ⟨rfl,rfl,rfl,rfl,rfl,rfl,trivial⟩
    rcases Nat.lt_or_ge k s with h5 | h5
    ·exact h2 k h5
    ·rw [show k = s by omega,hR,Bool.and_false]
 ·have hf : ((List.range M).all fun s=>!(decide (p.unit < yJ p (bits s)) && R s)) = true:=by
   rw [List.all_eq_true]
   intro k hk;rw [List.mem_range] at hk
   rw [h2 k (by omega)];rfl
  rw [hf]
  repeat' ((with_reducible first|refine XBr.y fun h=>?_|refine XBr.n fun h=>?_|refine XBr.dec (fun h=>?_) fun h=>?_) <;> conv=>whnf)
  exact ⟨.low rfl⟩
end GA
end
section
namespace GA
open Go Go.RowKit Go.Proofs
def modR (v : Int) : Int:=(v.tmod 101 + 101).tmod 101
theorem jt (v : Int) : 0 <= modR v /\ modR v < 101:=by
 have h1:=Int.tmod_lt_of_pos v (show (0 : Int) < 101 by omega)
 have h2 : -101 < v.tmod 101:=by
  have:=Int.tmod_lt_of_pos (-v) (show (0 : Int) < 101 by omega)
  rw [Int.neg_tmod] at this;omega
 unfold modR
 exact ⟨Int.tmod_nonneg _ (by omega),Int.tmod_lt_of_pos _ (by omega)⟩
theorem modR_in {v : Int} (h : 0 <= v /\ v <= 100) : modR v = v:=by
 unfold modR
 rw [Int.tmod_eq_of_lt h.1 (by omega),show v + 101 = v + 1 * 101 by omega,Int.tmod_eq_emod_of_nonneg (by omega),Int.add_mul_emod_self_right]
 exact Int.emod_eq_of_lt h.1 (by omega)
theorem yE (v : Int) : Comp Tryz.prog 59 [.int .i64 v,.int .i64 101] (.int .i64 (modR v)):=by
 have h1:=Int.tmod_lt_of_pos v (show (0 : Int) < 101 by omega)
 have h2 : -101 < v.tmod 101:=by
  have:=Int.tmod_lt_of_pos (-v) (show (0 : Int) < 101 by omega)
  rw [Int.neg_tmod] at this;omega
 have h3:=jt v
 have h4 : (v.tmod 101 + 101).tmod 101 = modR v:=rfl
 refine Comp.body (T:=tab) (res:=[.tmp 4]) zb [] Tryz.func59 rfl (by kernel_rfl) Tryz.ntmps59 rfl (by simp only [List.length_cons,List.length_nil];decide) (by rfl) ?_;conv=>whnf
 repeat' first|((with_reducible first|refine XBr.y fun h=>?_|refine XBr.n fun h=>?_|refine XBr.dec (fun h=>?_) fun h=>?_|refine XInt.a ?_) <;> conv=>whnf)|(refine zj.a ?_;conv=>whnf)|fail
 exact XOut.int rfl
def msum (ps : List Int) (k : Nat) : Int:=((ps.take k).map modR).sum
theorem kk {ps : List Int} {k : Nat} (h : k < ps.length) : msum ps (k + 1) = msum ps k + modR (ps.getD k default):=by
 unfold msum;rw [zS h];simp [List.sum_append]
theorem kU (ps : List Int) : ∀ k : Nat,k <= ps.length -> 0 <= msum ps k /\ msum ps k <= 101 * k
 | 0,_=>by simp [msum]
 | k + 1,h=>by
   have:=kU ps k (by omega)
   have h2:=jt (ps.getD k default)
   rw [kk (by omega)]
   omega
theorem zdO : ∀ (ps : List Int),(ps.all fun n=>inB n 0 100) = true -> msum ps ps.length = ps.sum:=fun ps h=>by
 unfold msum
 rw [List.take_length]
 congr 1
 have : ∀ x ∈ ps,modR x = x:=fun x hx=>by
  rw [List.all_eq_true] at h
  exact modR_in (zL.1 (h x hx))
 exact (List.map_congr_left this).trans (List.map_id _)
def jF (ps : List Int) (k : Nat) : Bool:=(ps.take k).all fun n=>inB n 0 100
theorem zaI {ps : List Int} {k : Nat} (h : k < ps.length) : jF ps (k + 1) = (jF ps k && inB (ps.getD k default) 0 100):=by
 unfold jF;rw [zS h,List.all_append];simp
theorem zdJ {u s w : Int} (hu : 1 <= u) : w * u < s ↔ w < (s + u - 1) / u:=by
 rw [<- Int.add_one_le_iff (a:=w),Int.le_ediv_iff_mul_le (by omega),Int.add_mul,Int.one_mul]
 omega
def kB (p : Pr) : Pr:=⟨p.unit,false,p.ps⟩
def FewOk (l : Ld) : Prop:=
 (∃ (o : List Int) (m : Int) (nl : Bool),o.length <= 100000 /\ 0 <= m /\ yQ (ownL l) = .tup [.sl false (ints o),.int .i64 m,.int .i64 0] /\ fewZ (zn (zf l)) l.sacks.length = .tup [.sl nl (ints o),.int .i64 m]) \/
 (yQ (ownL l) = .tup [.sl true [],.int .i64 0,.int .i64 6] /\ fewZ (zn (zf l)) l.sacks.length = .tup [.sl true [],.int .i64 (-1)])
set_option maxHeartbeats 2000000 in
theorem vV (l : Ld) (p : Pr) (hw : l.nla = true -> l.apart = []) (hF : zi l = 0 -> l.sacks.length <= 6 -> FewOk l) : Comp Tryz.prog 14 [ldA l,pcA p] (.bool true):=by
 have hgr:=qf l
 have hwi:=wide_c l 6
 have e2 : ((ints p.ps).length : Int) = p.ps.length:=by rw [List.length_map]
 have e3 : ((l.sacks.map skA).length : Int) = l.sacks.length:=by rw [List.length_map]
 refine Comp.body' (T:=tab) (res:=[.tmp 4]) zb [] Tryz.func14 rfl (by kernel_rfl) Tryz.ntmps14 rfl (by simp only [List.length_cons,List.length_nil];decide) (by simp only [lowL,AV.low,ldL,pcL];rfl) ?_;conv=>whnf
 by_cases hg : jg l = true
 ·rw [hg] at hgr
  repeat' first|((first|(with_reducible apply XBr.tt)|(first|refine za.ret hgr ?_|refine za.ret zx ?_));conv=>whnf)|fail
  exact XOut.bool rfl
 rw [Bool.not_eq_true] at hg
 rw [hg] at hgr
 by_cases hwd : wideB l 6 = true
 ·rw [hwd] at hwi
  repeat' first|((first|(with_reducible first|apply XBr.tt|apply XBr.ff)|(first|refine za.ret hgr ?_|refine za.ret hwi ?_|refine za.ret zx ?_));conv=>whnf)|fail
  exact XOut.bool rfl
 rw [Bool.not_eq_true] at hwd
 rw [hwd] at hwi
 by_cases h14 : 14 < p.ps.length
 ·skip
  repeat' first|((with_reducible first|apply XBr.ff|refine XBr.y fun h=>?_|refine XBr.n fun h=>?_|refine XBr.dec (fun h=>?_) fun h=>?_) <;> conv=>whnf)|((first|refine za.ret hgr ?_|refine za.ret hwi ?_|refine za.ret zx ?_);conv=>whnf)|fail
  exact XOut.bool rfl
 have hgl : l.sacks.length <= 14 /\ l.apart.length <= 12 /\ l.wth.length <= 12:=by
  unfold jg at hg
  simp only [Bool.or_eq_false_iff,decide_eq_false_iff_not] at hg
  omega
 have lw : LdW l:=⟨hw,by omega,by omega,by omega⟩
 have how:=own_c l lw
 have hth:=vi l lw
 have hsm:=zao l lw
 have ow : LdW (ownL l):=⟨nofun,lw.h1,lw.h2,lw.h3⟩
 have tw : LdW (thL l):=⟨hw,lw.h1,lw.h2,lw.h3⟩
 have hdu:=vK p.nl p.ps (by omega)
 repeat' first|((with_reducible first|apply XBr.ff|refine XBr.y fun h=>?_|refine XBr.n fun h=>?_|refine XBr.dec (fun h=>?_) fun h=>?_) <;> conv=>whnf)|((first|refine za.ret hgr ?_|refine za.ret hwi ?_);conv=>whnf)|fail
 refine Walk.place (Walk.place ?_)
 apply Walk.drawX zb zk [] [4,5,6,7] (fun fl=>match fl with
  | [a,b,x,y]=>[(bif a then .cells (bif x then ldC (ownL l) else [.int .i64 0,.int .i64 0,.sl true [],.sl true [],.sl true []]) else .free),
    (bif b then .cells (bif y then ldC (thL l) else [.int .i64 0,.int .i64 0,.sl true [],.sl true [],.sl true []]) else .free)]
  | _=>[]) [_,_,_,_,.ptr 0 0,.ptr 1 0,_,_] (by kernel_rfl) rfl
 ·skip
  repeat' first|((with_reducible first|apply Chk.go|apply ChkA.go);conv=>whnf)|(with_reducible first|apply XAnd.mk|exact trivial)|(exact zg.mk rfl rfl)|((first|refine za.ret how ?_|refine za.ret hth ?_);conv=>whnf)|(first|((refine yy.at 0 rfl ?_);(conv=>whnf);exact zg.mk rfl rfl)|((refine yy.at 1 rfl ?_);(conv=>whnf);exact zg.mk rfl rfl))|fail
 ·skip
  repeat' first|((with_reducible first|apply Chk.go|apply ChkF.go|apply ChkB.go);conv=>whnf)|(with_reducible first|apply XAnd.mk|exact trivial)|(exact zg.mk rfl rfl)|((first|refine za.ret how ?_|refine za.ret hth ?_);conv=>whnf)|(first|((refine yy.at 0 rfl ?_);(conv=>whnf);exact zg.mk rfl rfl)|((refine yy.at 1 rfl ?_);(conv=>whnf);exact zg.mk rfl rfl))|fail
 conv=>whnf
 refine Walk.place ?_
 apply Walk.drawX zb zk [] [6,7] (fun fl=>match fl with
  | [a,x]=>[.cells (ldC (ownL l)),.cells (ldC (thL l)),(bif a then .cells (bif x then pcC (kB p) else [.int .i64 0,.sl true []]) else .free)]
  | _=>[]) [_,_,_,_,_,_,.ptr 2 0,_] (by kernel_rfl) rfl
 ·skip
  repeat' first|((with_reducible first|apply Chk.go|apply ChkA.go);conv=>whnf)|(with_reducible first|apply XAnd.mk|exact trivial)|(exact zg.mk rfl rfl)|((refine za.ret hdu ?_);conv=>whnf)|((refine yy.at 2 rfl ?_);(conv=>whnf);exact zg.mk rfl rfl)|fail
 ·skip
  repeat' first|((with_reducible first|apply Chk.go|apply ChkF.go|apply ChkB.go);conv=>whnf)|(with_reducible first|apply XAnd.mk|exact trivial)|(exact zg.mk rfl rfl)|((refine za.ret hdu ?_);conv=>whnf)|fail
 conv=>whnf
 have hrc : Comp Tryz.prog 45 [ldA (thL l)] (.int .i64 (zi l)):=kQ (thL l) tw
 have hPF : Comp Tryz.prog 7 [ldA (ownL l)] (yQ (ownL l)):=vt (ownL l) ow.w ow.h1 ow.h2 ow.h3
 have hfair : Comp Tryz.prog 61 [ldA (ownL l),pcA (kB p)] (fairR (ownL l) (kB p)):=fair_c (ownL l) (kB p) ow (show p.ps.length <= 100000 by omega)
 have hprov : Comp Tryz.prog 62 [ldA (ownL l),pcA (kB p)] (vH (ownL l) (kB p)):=zei (ownL l) (kB p) ow (show p.ps.length <= 100000 by omega)
 have hfR : fairR (ownL l) (kB p) = if zi l = 0 then if zD l p = 0 then .tup [.bool (yR (zf (ownL l)) p),.int .i64 0] else .tup [.bool false,.int .i64 (zD l p)] else .tup [.bool false,.int .i64 (zi l)]:=rfl
 have hpR : vH (ownL l) (kB p) = if zi l = 0 then if zD l p = 0 then if yR (zf (ownL l)) p then .tup [.int .i64 ((p.ps.sum + p.unit - 1) / p.unit),.int .i64 0] else .tup [.int .i64 0,.int .i64 8] else .tup [.int .i64 0,.int .i64 (zD l p)] else .tup [.int .i64 0,.int .i64 (zi l)]:=rfl
 have hfw0 : yQ (ownL l) = if zi l = 0 then kT (zf (ownL l)) else .tup [.sl true [],.int .i64 0,.int .i64 (zi l)]:=rfl
 rw [hfR] at hfair
 rw [hpR] at hprov
 clear hfR hpR
 by_cases h0 : zi l = 0
 ·have ok:=(zB l).1 h0
  have tok : LdOk (thL l):=zam ok l.sacks.isEmpty l.nla l.nlw
  have h6 : l.sacks.length <= 6:=by
   have:=ok.n
   unfold wideB at hwd
   simp only [Bool.and_eq_false_iff,decide_eq_false_iff_not] at hwd
   omega
  have hFw : Comp Tryz.prog 58 [ldA (thL l)] (fewZ (zn (zf (thL l))) (thL l).sacks.length):=zdT (thL l) tok
  have hft : zn (zf (thL l)) = zn (zf l):=by rw [w5];exact kR l _ _ _
  rw [hft] at hFw
  rw [if_pos h0] at hfair hprov
  rw [h0] at hrc
  rcases hF h0 h6 with ⟨o,m,nl,ho,hm,hx,hy⟩ | ⟨hx,hy⟩
  ·rw [hx] at hPF
   rw [show (thL l).sacks.length = l.sacks.length from rfl,hy] at hFw
   clear hfw0
   by_cases hlen : p.ps.length = l.sacks.length
   ·by_cases hun : inB p.unit 1 100 = true
    ·have huu:=zL.1 hun
     repeat' first|((with_reducible first|apply XBr.tt|apply XBr.ff|refine XBr.y fun h=>?_|refine XBr.n fun h=>?_|refine XBr.dec (fun h=>?_) fun h=>?_|refine XBr.y1 fun h=>?_|refine XBr.n1 fun h=>?_|refine XBr.beq (fun h=>?_) fun h=>?_|refine XBr.y2 fun h=>?_|refine XBr.n2 fun h=>?_|refine XBr.bne (fun h=>?_) fun h=>?_) <;> conv=>whnf) | with_reducible apply XBr.not|((first|refine za.ret hrc ?_|refine za.ret hFw ?_|refine za.ret hPF ?_|refine za.ret (eqI _ _ o ho) ?_);conv=>whnf)|fail
     refine Walk.loopK zb [] [(2,_),(3,_),(4,_),(5,_),(6,_),(7,_),(102,_),(103,_)] ⟨rfl,rfl,rfl,rfl,rfl,rfl,rfl,rfl,trivial⟩ (fun k : Nat=>k <= p.ps.length) (fun k=>[(8,.int .i64 (bif jF p.ps k then 0 else 3)),(15,.int .i64 (msum p.ps k)),(104,natA k)]) (fun _=>[.cells (ldC (ownL l)),.cells (ldC (thL l)),.cells (pcC (kB p))]) (fun k=>p.ps.length - k) 0 (Nat.zero_le _) rfl ⟨rfl,rfl,rfl,trivial⟩ ?_
     intro k hk
     generalize hgv : (bif jF p.ps k then (0 : Int) else 3) = g
     by_cases hlt : k < p.ps.length
     ·have hmb:=jt (p.ps.getD k default)
      have hmn:=kk hlt
      have hmbd:=kU p.ps k hk
      have hgn:=zaI hlt
      cases hG : jF p.ps k with
      | true =>
        rw [hG,Bool.true_and] at hgn
        have hg' : g = 0:=by rw [<- hgv,hG];rfl
        conv=>whnf
        by_cases hin : inB (p.ps.getD k default) 0 100 = true
        ·have hin2:=zL.1 hin
         rw [hin] at hgn
         repeat' first|((with_reducible first|apply XBr.tt|apply XBr.ff|refine XBr.y fun h=>?_|refine XBr.n fun h=>?_|refine XBr.dec (fun h=>?_) fun h=>?_|refine XBr.y1 fun h=>?_|refine XBr.n1 fun h=>?_|refine XBr.beq (fun h=>?_) fun h=>?_|refine XInt.a ?_) <;> conv=>whnf)|((first|refine XIx.a ?_|refine za.ret (yE _) ?_);conv=>whnf)|fail
         refine zh.go (k + 1) (by omega) (by omega) rfl ⟨rfl,rfl,rfl,rfl,rfl,rfl,rfl,rfl,?_,?_,rfl,trivial⟩
         ·rw [hgn];exact congrArg (fun n=>some (AV.int .i64 n)) hg'
         ·rw [hmn];rfl
        ·have hin2 : ¬ (0 <= p.ps.getD k default /\ p.ps.getD k default <= 100):=fun h=>hin (zL.2 h)
         rw [Bool.not_eq_true] at hin
         rw [hin] at hgn
         repeat' first|((with_reducible first|apply XBr.tt|apply XBr.ff|refine XBr.y fun h=>?_|refine XBr.n fun h=>?_|refine XBr.dec (fun h=>?_) fun h=>?_|refine XBr.y1 fun h=>?_|refine XBr.n1 fun h=>?_|refine XBr.beq (fun h=>?_) fun h=>?_|refine XInt.a ?_) <;> conv=>whnf)|((first|refine XIx.a ?_|refine za.ret (yE _) ?_);conv=>whnf)|fail
         all_goals first|(exfalso;omega) | skip
         all_goals
          refine zh.go (k + 1) (by omega) (by omega) rfl ⟨rfl,rfl,rfl,rfl,rfl,rfl,rfl,rfl,?_,?_,rfl,trivial⟩
          ·rw [hgn];rfl
          ·rw [hmn];rfl
      | false =>
        rw [hG,Bool.false_and] at hgn
        have hg' : g = 3:=by rw [<- hgv,hG];rfl
        conv=>whnf
        repeat' first|((with_reducible first|apply XBr.ff|refine XBr.y fun h=>?_|refine XBr.n fun h=>?_|refine XBr.dec (fun h=>?_) fun h=>?_|refine XBr.y1 fun h=>?_|refine XBr.n1 fun h=>?_|refine XBr.beq (fun h=>?_) fun h=>?_|refine XInt.a ?_) <;> conv=>whnf)|((first|refine XIx.a ?_|refine za.ret (yE _) ?_);conv=>whnf)|fail
        all_goals first|(exfalso;omega) | skip
        all_goals
         refine zh.go (k + 1) (by omega) (by omega) rfl ⟨rfl,rfl,rfl,rfl,rfl,rfl,rfl,rfl,?_,?_,rfl,trivial⟩
         ·rw [hgn];exact congrArg (fun n=>some (AV.int .i64 n)) hg'
         ·rw [hmn];rfl
     ·obtain rfl : k = p.ps.length:=by omega
      have hga : jF p.ps p.ps.length = p.ps.all fun n=>inB n 0 100:=by unfold jF;rw [List.take_length]
      cases hG : jF p.ps p.ps.length with
      | true =>
        have hg' : g = 0:=by rw [<- hgv,hG];rfl
        have hpe : zD l p = 0:=by unfold zD;rw [if_neg (by omega),if_pos (by rw [hun,<- hga,hG];rfl)]
        have hms:=zdO p.ps (by rw [<- hga];exact hG)
        have hmb:=kU p.ps p.ps.length (Nat.le_refl _)
        rw [hpe,if_pos rfl] at hfair hprov
        have hRF : Comp Tryz.prog 60 [ldA (thL l),.int .i64 p.unit,.sl p.nl (ints p.ps)] (.bool (yR (zf (thL l)) p)):=zbL (thL l) tok p p.nl hpe
        have hf1 : yR (zf (thL l)) p = yR (zf (ownL l)) p:=by
         have h1 : zn (zf (thL l)) = zn (zf l):=by rw [w5];exact kR l _ _ _
         have h2 : zn (zf (ownL l)) = zn (zf l):=by rw [j2];exact kR l _ _ _
         unfold yR;rw [h1,h2];rfl
        rw [hf1] at hRF
        rw [hms]
        rw [hms] at hmb
        clear hms hf1
        cases hfb : yR (zf (ownL l)) p with
        | true =>
          rw [hfb] at hRF hfair hprov
          rw [if_pos rfl] at hprov
          obtain ⟨g1,g2,g3,g4⟩:=wa hpe
          have hciff:=fun w=>zdJ (s:=p.ps.sum) (w:=w) g2
          have hCm : (p.ps.sum + p.unit - 1) / p.unit * p.unit <= p.ps.sum + p.unit - 1:=Int.ediv_mul_le _ (by omega)
          have hC0 : 0 <= (p.ps.sum + p.unit - 1) / p.unit:=Int.ediv_nonneg (by omega) (by omega)
          have hCs : (p.ps.sum + p.unit - 1) / p.unit <= p.ps.sum:=by
           have h:=(hciff p.ps.sum).2
           have h2 : p.ps.sum * 1 <= p.ps.sum * p.unit:=Int.mul_le_mul_of_nonneg_left g2 hmb.1
           omega
          generalize (p.ps.sum + p.unit - 1) / p.unit = C at hprov hciff hCm hC0 hCs
          conv=>whnf
          repeat' first|((with_reducible first|apply XBr.tt|apply XBr.ff|refine XBr.y fun h=>?_|refine XBr.n fun h=>?_|refine XBr.dec (fun h=>?_) fun h=>?_|refine XBr.y1 fun h=>?_|refine XBr.n1 fun h=>?_|refine XBr.beq (fun h=>?_) fun h=>?_|refine XBr.y2 fun h=>?_|refine XBr.n2 fun h=>?_|refine XBr.bne (fun h=>?_) fun h=>?_) <;> conv=>whnf) | with_reducible apply XBr.not|((first|refine za.ret hRF ?_|refine za.ret hfair ?_|refine za.ret hprov ?_);conv=>whnf)|((with_reducible refine XBr.mk' (fun h=>?_) fun h=>?_) <;> conv=>whnf)|fail
          all_goals first|(exfalso;omega)|(exfalso;exact absurd (show (true != true) = true by assumption) (by decide))|(exfalso;exact absurd (show (false != false) = true by assumption) (by decide)) | skip
          refine Walk.loopK zb [] [(2,_),(3,_),(4,_),(5,_),(7,_),(8,_),(15,_),(20,_),(21,_)] ⟨rfl,rfl,rfl,rfl,rfl,rfl,rfl,rfl,rfl,trivial⟩ (fun w : Nat=>(w : Int) <= C) (fun w=>[(22,natA w)]) (fun _=>[.cells (ldC (ownL l)),.cells (ldC (thL l)),.cells (pcC (kB p))]) (fun w=>C.toNat - w) 0 (by omega) rfl ⟨rfl,trivial⟩ ?_
          intro w hwC
          have hwi1:=hciff (w : Int)
          have hm0 : 0 <= (w : Int) * p.unit:=Int.mul_nonneg (by omega) (by omega)
          have hub : (w : Int) * p.unit <= C * p.unit:=Int.mul_le_mul_of_nonneg_right hwC (by omega)
          conv=>whnf
          by_cases hlw : (w : Int) < C
          ·have hlm:=hwi1.2 hlw
           repeat' ((with_reducible first|refine XBr.y fun h=>?_|refine XBr.n fun h=>?_|refine XBr.dec (fun h=>?_) fun h=>?_|refine XInt.a ?_) <;> conv=>whnf)
           refine zh.go (w + 1) (by omega) (by omega) rfl ⟨rfl,rfl,rfl,rfl,rfl,rfl,rfl,rfl,rfl,rfl,trivial⟩
          ·have hlm:=fun h=>hlw (hwi1.1 h)
           repeat' ((with_reducible first|refine XBr.y fun h=>?_|refine XBr.n fun h=>?_|refine XBr.dec (fun h=>?_) fun h=>?_|refine XInt.a ?_) <;> conv=>whnf)
           all_goals first|(exfalso;omega) | skip
           all_goals
            refine Walk.norm zb [] [(2,.pim (ldC l)),(3,.pim (pcC p)),(5,.ptr 0 0),(7,.ptr 2 0),(8,_),(20,.int .i64 C),(21,_),(22,natA w)] ⟨rfl,rfl,rfl,rfl,rfl,rfl,rfl,rfl,trivial⟩ ?_
            conv=>whnf
            repeat' first|((with_reducible first|apply XBr.tt|apply XBr.ff|refine XBr.y1 fun h=>?_|refine XBr.n1 fun h=>?_|refine XBr.beq (fun h=>?_) fun h=>?_) <;> conv=>whnf)|((first|refine za.ret (eqI _ _ p.ps (by omega)) ?_|refine za.ret hsm ?_|refine za.ret zx ?_);conv=>whnf)|fail
            all_goals first|exact XOut.bool rfl|(exfalso;exact absurd rfl (by assumption))|(exfalso;omega) | skip
        | false =>
          rw [hfb] at hRF hfair hprov
          rw [if_neg (by simp)] at hprov
          conv=>whnf
          repeat' first|((with_reducible first|apply XBr.tt|apply XBr.ff|refine XBr.y fun h=>?_|refine XBr.n fun h=>?_|refine XBr.dec (fun h=>?_) fun h=>?_|refine XBr.y1 fun h=>?_|refine XBr.n1 fun h=>?_|refine XBr.beq (fun h=>?_) fun h=>?_|refine XBr.y2 fun h=>?_|refine XBr.n2 fun h=>?_|refine XBr.bne (fun h=>?_) fun h=>?_) <;> conv=>whnf) | with_reducible apply XBr.not|((first|refine za.ret hRF ?_|refine za.ret hfair ?_|refine za.ret hprov ?_);conv=>whnf)|((with_reducible refine XBr.mk' (fun h=>?_) fun h=>?_) <;> conv=>whnf)|fail
          all_goals first|(exfalso;omega)|(exfalso;exact absurd (show (true != true) = true by assumption) (by decide))|(exfalso;exact absurd (show (false != false) = true by assumption) (by decide)) | skip
          all_goals
           refine Walk.norm zb [] [(2,.pim (ldC l)),(3,.pim (pcC p)),(5,.ptr 0 0),(7,.ptr 2 0),(8,_),(20,.int .i64 0),(21,_),(22,.int .i64 0)] ⟨rfl,rfl,rfl,rfl,rfl,rfl,rfl,rfl,trivial⟩ ?_
           conv=>whnf
           repeat' first|((with_reducible first|apply XBr.tt|apply XBr.ff|refine XBr.y1 fun h=>?_|refine XBr.n1 fun h=>?_|refine XBr.beq (fun h=>?_) fun h=>?_) <;> conv=>whnf)|((first|refine za.ret (eqI _ _ p.ps (by omega)) ?_|refine za.ret hsm ?_|refine za.ret zx ?_);conv=>whnf)|fail
           all_goals first|exact XOut.bool rfl|(exfalso;exact absurd rfl (by assumption)) | skip
      | false =>
        have hg' : g = 3:=by rw [<- hgv,hG];rfl
        have hpe : zD l p = 3:=by unfold zD;rw [if_neg (by omega),if_neg (by rw [<- hga,hG];simp)]
        rw [if_neg (by omega)] at hfair hprov
        rw [hpe,<- hg'] at hfair hprov
        conv=>whnf
        repeat' first|((with_reducible first|apply XBr.ff|refine XBr.y fun h=>?_|refine XBr.n fun h=>?_|refine XBr.dec (fun h=>?_) fun h=>?_|refine XBr.y1 fun h=>?_|refine XBr.n1 fun h=>?_|refine XBr.beq (fun h=>?_) fun h=>?_|refine XBr.y2 fun h=>?_|refine XBr.n2 fun h=>?_|refine XBr.bne (fun h=>?_) fun h=>?_) <;> conv=>whnf)|((first|refine za.ret hfair ?_|refine za.ret hprov ?_);conv=>whnf)|((with_reducible refine XBr.mk' (fun h=>?_) fun h=>?_) <;> conv=>whnf)|fail
        all_goals first|(exfalso;omega)|(exfalso;exact absurd (show (false != false) = true by assumption) (by decide)) | skip
        all_goals
         refine Walk.norm zb [] [(2,.pim (ldC l)),(3,.pim (pcC p)),(5,.ptr 0 0),(7,.ptr 2 0),(8,_),(20,.int .i64 0),(21,_),(22,.int .i64 0)] ⟨rfl,rfl,rfl,rfl,rfl,rfl,rfl,rfl,trivial⟩ ?_
         conv=>whnf
         repeat' first|((with_reducible first|apply XBr.tt|apply XBr.ff|refine XBr.y1 fun h=>?_|refine XBr.n1 fun h=>?_|refine XBr.beq (fun h=>?_) fun h=>?_) <;> conv=>whnf)|((first|refine za.ret (eqI _ _ p.ps (by omega)) ?_|refine za.ret hsm ?_|refine za.ret zx ?_);conv=>whnf)|fail
         all_goals first|exact XOut.bool rfl|(exfalso;exact absurd rfl (by assumption)) | skip
    ·have hpe : zD l p = 3:=by unfold zD;rw [if_neg (by omega),if_neg (by rw [Bool.not_eq_true] at hun;rw [hun];simp)]
     have huu : ¬ (1 <= p.unit /\ p.unit <= 100):=fun h=>hun (zL.2 h)
     rw [if_neg (by omega)] at hfair hprov
     obtain ⟨E,hE⟩ : ∃ E : Int,E = zD l p:=⟨_,rfl⟩
     rw [<- hE] at hfair hprov
     have hE' : E = 3:=by omega
     have hE0 : E ≠ 0:=by omega
     clear hE hpe
     repeat' first|((with_reducible first|apply XBr.tt|apply XBr.ff|refine XBr.y fun h=>?_|refine XBr.n fun h=>?_|refine XBr.dec (fun h=>?_) fun h=>?_|refine XBr.y1 fun h=>?_|refine XBr.n1 fun h=>?_|refine XBr.beq (fun h=>?_) fun h=>?_|refine XBr.y2 fun h=>?_|refine XBr.n2 fun h=>?_|refine XBr.bne (fun h=>?_) fun h=>?_) <;> conv=>whnf) | with_reducible apply XBr.not|((first|refine za.ret hrc ?_|refine za.ret hFw ?_|refine za.ret hPF ?_|refine za.ret (eqI _ _ o ho) ?_);conv=>whnf)|fail
     all_goals first|(exfalso;omega) | skip
     all_goals
      refine Walk.loopK zb [] [(2,_),(3,_),(4,_),(5,_),(6,_),(7,_),(8,.int .i64 E),(102,_),(103,_)] ⟨rfl,rfl,rfl,rfl,rfl,rfl,congrArg (fun n=>some (AV.int .i64 n)) hE'.symm,rfl,rfl,trivial⟩ (fun k : Nat=>k <= p.ps.length) (fun k=>[(15,.int .i64 (msum p.ps k)),(104,natA k)]) (fun _=>[.cells (ldC (ownL l)),.cells (ldC (thL l)),.cells (pcC (kB p))]) (fun k=>p.ps.length - k) 0 (Nat.zero_le _) rfl ⟨rfl,rfl,trivial⟩ ?_
      intro k hk
      conv=>whnf
      by_cases hlt : k < p.ps.length
      ·have hmb:=jt (p.ps.getD k default)
       have hmn:=kk hlt
       have hmbd:=kU p.ps k hk
       repeat' first|((with_reducible first|apply XBr.ff|refine XBr.y fun h=>?_|refine XBr.n fun h=>?_|refine XBr.dec (fun h=>?_) fun h=>?_|refine XBr.y1 fun h=>?_|refine XBr.n1 fun h=>?_|refine XBr.beq (fun h=>?_) fun h=>?_|refine XInt.a ?_) <;> conv=>whnf)|((first|refine XIx.a ?_|refine za.ret (yE _) ?_);conv=>whnf)|fail
       all_goals
        refine zh.go (k + 1) (by omega) (by omega) rfl ⟨rfl,rfl,rfl,rfl,rfl,rfl,rfl,rfl,rfl,?_,rfl,trivial⟩
        rw [hmn];rfl
      ·skip
       repeat' first|((with_reducible first|apply XBr.ff|refine XBr.y fun h=>?_|refine XBr.n fun h=>?_|refine XBr.dec (fun h=>?_) fun h=>?_|refine XBr.y1 fun h=>?_|refine XBr.n1 fun h=>?_|refine XBr.beq (fun h=>?_) fun h=>?_|refine XBr.y2 fun h=>?_|refine XBr.n2 fun h=>?_|refine XBr.bne (fun h=>?_) fun h=>?_) <;> conv=>whnf)|((first|refine za.ret hfair ?_|refine za.ret hprov ?_);conv=>whnf)|((with_reducible refine XBr.mk' (fun h=>?_) fun h=>?_) <;> conv=>whnf)|fail
       all_goals first|(exfalso;omega)|(exfalso;exact absurd (show (false != false) = true by assumption) (by decide)) | skip
       all_goals
        refine Walk.norm zb [] [(2,.pim (ldC l)),(3,.pim (pcC p)),(5,.ptr 0 0),(7,.ptr 2 0),(8,_),(20,.int .i64 0),(21,_),(22,.int .i64 0)] ⟨rfl,rfl,rfl,rfl,rfl,rfl,rfl,rfl,trivial⟩ ?_
        conv=>whnf
        repeat' first|((with_reducible first|apply XBr.tt|apply XBr.ff|refine XBr.y1 fun h=>?_|refine XBr.n1 fun h=>?_|refine XBr.beq (fun h=>?_) fun h=>?_) <;> conv=>whnf)|((first|refine za.ret (eqI _ _ p.ps (by omega)) ?_|refine za.ret hsm ?_|refine za.ret zx ?_);conv=>whnf)|fail
        all_goals first|exact XOut.bool rfl|(exfalso;exact absurd rfl (by assumption)) | skip
   ·have hpe : zD l p = 2:=by unfold zD;rw [if_pos (by omega)]
    rw [if_neg (by omega)] at hfair hprov
    obtain ⟨E,hE⟩ : ∃ E : Int,E = zD l p:=⟨_,rfl⟩
    rw [<- hE] at hfair hprov
    have hE' : E = 2:=by omega
    have hE0 : E ≠ 0:=by omega
    clear hE hpe
    repeat' first|((with_reducible first|apply XBr.tt|apply XBr.ff|refine XBr.y fun h=>?_|refine XBr.n fun h=>?_|refine XBr.dec (fun h=>?_) fun h=>?_|refine XBr.y1 fun h=>?_|refine XBr.n1 fun h=>?_|refine XBr.beq (fun h=>?_) fun h=>?_|refine XBr.y2 fun h=>?_|refine XBr.n2 fun h=>?_|refine XBr.bne (fun h=>?_) fun h=>?_) <;> conv=>whnf) | with_reducible apply XBr.not|((first|refine za.ret hrc ?_|refine za.ret hFw ?_|refine za.ret hPF ?_|refine za.ret (eqI _ _ o ho) ?_);conv=>whnf)|fail
    all_goals first|(exfalso;omega) | skip
    all_goals
     refine Walk.loopK zb [] [(2,_),(3,_),(4,_),(5,_),(6,_),(7,_),(8,.int .i64 E),(102,_),(103,_)] ⟨rfl,rfl,rfl,rfl,rfl,rfl,congrArg (fun n=>some (AV.int .i64 n)) hE'.symm,rfl,rfl,trivial⟩ (fun k : Nat=>k <= p.ps.length) (fun k=>[(15,.int .i64 (msum p.ps k)),(104,natA k)]) (fun _=>[.cells (ldC (ownL l)),.cells (ldC (thL l)),.cells (pcC (kB p))]) (fun k=>p.ps.length - k) 0 (Nat.zero_le _) rfl ⟨rfl,rfl,trivial⟩ ?_
     intro k hk
     conv=>whnf
     by_cases hlt : k < p.ps.length
     ·have hmb:=jt (p.ps.getD k default)
      have hmn:=kk hlt
      have hmbd:=kU p.ps k hk
      repeat' first|((with_reducible first|apply XBr.ff|refine XBr.y fun h=>?_|refine XBr.n fun h=>?_|refine XBr.dec (fun h=>?_) fun h=>?_|refine XBr.y1 fun h=>?_|refine XBr.n1 fun h=>?_|refine XBr.beq (fun h=>?_) fun h=>?_|refine XInt.a ?_) <;> conv=>whnf)|((first|refine XIx.a ?_|refine za.ret (yE _) ?_);conv=>whnf)|fail
      all_goals
       refine zh.go (k + 1) (by omega) (by omega) rfl ⟨rfl,rfl,rfl,rfl,rfl,rfl,rfl,rfl,rfl,?_,rfl,trivial⟩
       rw [hmn];rfl
     ·skip
      repeat' first|((with_reducible first|apply XBr.ff|refine XBr.y fun h=>?_|refine XBr.n fun h=>?_|refine XBr.dec (fun h=>?_) fun h=>?_|refine XBr.y1 fun h=>?_|refine XBr.n1 fun h=>?_|refine XBr.beq (fun h=>?_) fun h=>?_|refine XBr.y2 fun h=>?_|refine XBr.n2 fun h=>?_|refine XBr.bne (fun h=>?_) fun h=>?_) <;> conv=>whnf)|((first|refine za.ret hfair ?_|refine za.ret hprov ?_);conv=>whnf)|((with_reducible refine XBr.mk' (fun h=>?_) fun h=>?_) <;> conv=>whnf)|fail
      all_goals first|(exfalso;omega)|(exfalso;exact absurd (show (false != false) = true by assumption) (by decide)) | skip
      all_goals
       refine Walk.norm zb [] [(2,.pim (ldC l)),(3,.pim (pcC p)),(5,.ptr 0 0),(7,.ptr 2 0),(8,_),(20,.int .i64 0),(21,_),(22,.int .i64 0)] ⟨rfl,rfl,rfl,rfl,rfl,rfl,rfl,rfl,trivial⟩ ?_
       conv=>whnf
       repeat' first|((with_reducible first|apply XBr.tt|apply XBr.ff|refine XBr.y1 fun h=>?_|refine XBr.n1 fun h=>?_|refine XBr.beq (fun h=>?_) fun h=>?_) <;> conv=>whnf)|((first|refine za.ret (eqI _ _ p.ps (by omega)) ?_|refine za.ret hsm ?_|refine za.ret zx ?_);conv=>whnf)|fail
       all_goals first|exact XOut.bool rfl|(exfalso;exact absurd rfl (by assumption)) | skip
  ·rw [hx] at hPF
   rw [show (thL l).sacks.length = l.sacks.length from rfl,hy] at hFw
   clear hfw0
   by_cases hlen : p.ps.length = l.sacks.length
   ·by_cases hun : inB p.unit 1 100 = true
    ·have huu:=zL.1 hun
     repeat' first|((with_reducible first|apply XBr.tt|apply XBr.ff|refine XBr.y fun h=>?_|refine XBr.n fun h=>?_|refine XBr.dec (fun h=>?_) fun h=>?_|refine XBr.y1 fun h=>?_|refine XBr.n1 fun h=>?_|refine XBr.beq (fun h=>?_) fun h=>?_|refine XBr.y2 fun h=>?_|refine XBr.n2 fun h=>?_|refine XBr.bne (fun h=>?_) fun h=>?_) <;> conv=>whnf) | with_reducible apply XBr.not|((first|refine za.ret hrc ?_|refine za.ret hFw ?_|refine za.ret hPF ?_|refine za.ret (eqI _ _ ([] : List Int) (by decide)) ?_);conv=>whnf)|fail
     refine Walk.loopK zb [] [(2,_),(3,_),(4,_),(5,_),(6,_),(7,_),(102,_),(103,_)] ⟨rfl,rfl,rfl,rfl,rfl,rfl,rfl,rfl,trivial⟩ (fun k : Nat=>k <= p.ps.length) (fun k=>[(8,.int .i64 (bif jF p.ps k then 0 else 3)),(15,.int .i64 (msum p.ps k)),(104,natA k)]) (fun _=>[.cells (ldC (ownL l)),.cells (ldC (thL l)),.cells (pcC (kB p))]) (fun k=>p.ps.length - k) 0 (Nat.zero_le _) rfl ⟨rfl,rfl,rfl,trivial⟩ ?_
     intro k hk
     generalize hgv : (bif jF p.ps k then (0 : Int) else 3) = g
     by_cases hlt : k < p.ps.length
     ·have hmb:=jt (p.ps.getD k default)
      have hmn:=kk hlt
      have hmbd:=kU p.ps k hk
      have hgn:=zaI hlt
      cases hG : jF p.ps k with
      | true =>
        rw [hG,Bool.true_and] at hgn
        have hg' : g = 0:=by rw [<- hgv,hG];rfl
        conv=>whnf
        by_cases hin : inB (p.ps.getD k default) 0 100 = true
        ·have hin2:=zL.1 hin
         rw [hin] at hgn
         repeat' first|((with_reducible first|apply XBr.tt|apply XBr.ff|refine XBr.y fun h=>?_|refine XBr.n fun h=>?_|refine XBr.dec (fun h=>?_) fun h=>?_|refine XBr.y1 fun h=>?_|refine XBr.n1 fun h=>?_|refine XBr.beq (fun h=>?_) fun h=>?_|refine XInt.a ?_) <;> conv=>whnf)|((first|refine XIx.a ?_|refine za.ret (yE _) ?_);conv=>whnf)|fail
         refine zh.go (k + 1) (by omega) (by omega) rfl ⟨rfl,rfl,rfl,rfl,rfl,rfl,rfl,rfl,?_,?_,rfl,trivial⟩
         ·rw [hgn];exact congrArg (fun n=>some (AV.int .i64 n)) hg'
         ·rw [hmn];rfl
        ·have hin2 : ¬ (0 <= p.ps.getD k default /\ p.ps.getD k default <= 100):=fun h=>hin (zL.2 h)
         rw [Bool.not_eq_true] at hin
         rw [hin] at hgn
         repeat' first|((with_reducible first|apply XBr.tt|apply XBr.ff|refine XBr.y fun h=>?_|refine XBr.n fun h=>?_|refine XBr.dec (fun h=>?_) fun h=>?_|refine XBr.y1 fun h=>?_|refine XBr.n1 fun h=>?_|refine XBr.beq (fun h=>?_) fun h=>?_|refine XInt.a ?_) <;> conv=>whnf)|((first|refine XIx.a ?_|refine za.ret (yE _) ?_);conv=>whnf)|fail
         all_goals first|(exfalso;omega) | skip
         all_goals
          refine zh.go (k + 1) (by omega) (by omega) rfl ⟨rfl,rfl,rfl,rfl,rfl,rfl,rfl,rfl,?_,?_,rfl,trivial⟩
          ·rw [hgn];rfl
          ·rw [hmn];rfl
      | false =>
        rw [hG,Bool.false_and] at hgn
        have hg' : g = 3:=by rw [<- hgv,hG];rfl
        conv=>whnf
        repeat' first|((with_reducible first|apply XBr.ff|refine XBr.y fun h=>?_|refine XBr.n fun h=>?_|refine XBr.dec (fun h=>?_) fun h=>?_|refine XBr.y1 fun h=>?_|refine XBr.n1 fun h=>?_|refine XBr.beq (fun h=>?_) fun h=>?_|refine XInt.a ?_) <;> conv=>whnf)|((first|refine XIx.a ?_|refine za.ret (yE _) ?_);conv=>whnf)|fail
        all_goals first|(exfalso;omega) | skip
        all_goals
         refine zh.go (k + 1) (by omega) (by omega) rfl ⟨rfl,rfl,rfl,rfl,rfl,rfl,rfl,rfl,?_,?_,rfl,trivial⟩
         ·rw [hgn];exact congrArg (fun n=>some (AV.int .i64 n)) hg'
         ·rw [hmn];rfl
     ·obtain rfl : k = p.ps.length:=by omega
      have hga : jF p.ps p.ps.length = p.ps.all fun n=>inB n 0 100:=by unfold jF;rw [List.take_length]
      cases hG : jF p.ps p.ps.length with
      | true =>
        have hg' : g = 0:=by rw [<- hgv,hG];rfl
        have hpe : zD l p = 0:=by unfold zD;rw [if_neg (by omega),if_pos (by rw [hun,<- hga,hG];rfl)]
        have hms:=zdO p.ps (by rw [<- hga];exact hG)
        have hmb:=kU p.ps p.ps.length (Nat.le_refl _)
        rw [hpe,if_pos rfl] at hfair hprov
        have hRF : Comp Tryz.prog 60 [ldA (thL l),.int .i64 p.unit,.sl p.nl (ints p.ps)] (.bool (yR (zf (thL l)) p)):=zbL (thL l) tok p p.nl hpe
        have hf1 : yR (zf (thL l)) p = yR (zf (ownL l)) p:=by
         have h1 : zn (zf (thL l)) = zn (zf l):=by rw [w5];exact kR l _ _ _
         have h2 : zn (zf (ownL l)) = zn (zf l):=by rw [j2];exact kR l _ _ _
         unfold yR;rw [h1,h2];rfl
        rw [hf1] at hRF
        rw [hms]
        rw [hms] at hmb
        clear hms hf1
        cases hfb : yR (zf (ownL l)) p with
        | true =>
          rw [hfb] at hRF hfair hprov
          rw [if_pos rfl] at hprov
          obtain ⟨g1,g2,g3,g4⟩:=wa hpe
          have hciff:=fun w=>zdJ (s:=p.ps.sum) (w:=w) g2
          have hCm : (p.ps.sum + p.unit - 1) / p.unit * p.unit <= p.ps.sum + p.unit - 1:=Int.ediv_mul_le _ (by omega)
          have hC0 : 0 <= (p.ps.sum + p.unit - 1) / p.unit:=Int.ediv_nonneg (by omega) (by omega)
          have hCs : (p.ps.sum + p.unit - 1) / p.unit <= p.ps.sum:=by
           have h:=(hciff p.ps.sum).2
           have h2 : p.ps.sum * 1 <= p.ps.sum * p.unit:=Int.mul_le_mul_of_nonneg_left g2 hmb.1
           omega
          generalize (p.ps.sum + p.unit - 1) / p.unit = C at hprov hciff hCm hC0 hCs
          conv=>whnf
          repeat' first|((with_reducible first|apply XBr.tt|apply XBr.ff|refine XBr.y fun h=>?_|refine XBr.n fun h=>?_|refine XBr.dec (fun h=>?_) fun h=>?_|refine XBr.y1 fun h=>?_|refine XBr.n1 fun h=>?_|refine XBr.beq (fun h=>?_) fun h=>?_|refine XBr.y2 fun h=>?_|refine XBr.n2 fun h=>?_|refine XBr.bne (fun h=>?_) fun h=>?_) <;> conv=>whnf) | with_reducible apply XBr.not|((first|refine za.ret hRF ?_|refine za.ret hfair ?_|refine za.ret hprov ?_);conv=>whnf)|((with_reducible refine XBr.mk' (fun h=>?_) fun h=>?_) <;> conv=>whnf)|fail
          all_goals first|(exfalso;omega)|(exfalso;exact absurd (show (true != true) = true by assumption) (by decide))|(exfalso;exact absurd (show (false != false) = true by assumption) (by decide)) | skip
          refine Walk.loopK zb [] [(2,_),(3,_),(4,_),(5,_),(7,_),(8,_),(15,_),(20,_),(21,_)] ⟨rfl,rfl,rfl,rfl,rfl,rfl,rfl,rfl,rfl,trivial⟩ (fun w : Nat=>(w : Int) <= C) (fun w=>[(22,natA w)]) (fun _=>[.cells (ldC (ownL l)),.cells (ldC (thL l)),.cells (pcC (kB p))]) (fun w=>C.toNat - w) 0 (by omega) rfl ⟨rfl,trivial⟩ ?_
          intro w hwC
          have hwi1:=hciff (w : Int)
          have hm0 : 0 <= (w : Int) * p.unit:=Int.mul_nonneg (by omega) (by omega)
          have hub : (w : Int) * p.unit <= C * p.unit:=Int.mul_le_mul_of_nonneg_right hwC (by omega)
          conv=>whnf
          by_cases hlw : (w : Int) < C
          ·have hlm:=hwi1.2 hlw
           repeat' ((with_reducible first|refine XBr.y fun h=>?_|refine XBr.n fun h=>?_|refine XBr.dec (fun h=>?_) fun h=>?_|refine XInt.a ?_) <;> conv=>whnf)
           refine zh.go (w + 1) (by omega) (by omega) rfl ⟨rfl,rfl,rfl,rfl,rfl,rfl,rfl,rfl,rfl,rfl,trivial⟩
          ·have hlm:=fun h=>hlw (hwi1.1 h)
           repeat' ((with_reducible first|refine XBr.y fun h=>?_|refine XBr.n fun h=>?_|refine XBr.dec (fun h=>?_) fun h=>?_|refine XInt.a ?_) <;> conv=>whnf)
           all_goals first|(exfalso;omega) | skip
           all_goals
            refine Walk.norm zb [] [(2,.pim (ldC l)),(3,.pim (pcC p)),(5,.ptr 0 0),(7,.ptr 2 0),(8,_),(20,.int .i64 C),(21,_),(22,natA w)] ⟨rfl,rfl,rfl,rfl,rfl,rfl,rfl,rfl,trivial⟩ ?_
            conv=>whnf
            repeat' first|((with_reducible first|apply XBr.tt|apply XBr.ff|refine XBr.y1 fun h=>?_|refine XBr.n1 fun h=>?_|refine XBr.beq (fun h=>?_) fun h=>?_) <;> conv=>whnf)|((first|refine za.ret (eqI _ _ p.ps (by omega)) ?_|refine za.ret hsm ?_|refine za.ret zx ?_);conv=>whnf)|fail
            all_goals first|exact XOut.bool rfl|(exfalso;exact absurd rfl (by assumption))|(exfalso;omega) | skip
        | false =>
          rw [hfb] at hRF hfair hprov
          rw [if_neg (by simp)] at hprov
          conv=>whnf
          repeat' first|((with_reducible first|apply XBr.tt|apply XBr.ff|refine XBr.y fun h=>?_|refine XBr.n fun h=>?_|refine XBr.dec (fun h=>?_) fun h=>?_|refine XBr.y1 fun h=>?_|refine XBr.n1 fun h=>?_|refine XBr.beq (fun h=>?_) fun h=>?_|refine XBr.y2 fun h=>?_|refine XBr.n2 fun h=>?_|refine XBr.bne (fun h=>?_) fun h=>?_) <;> conv=>whnf) | with_reducible apply XBr.not|((first|refine za.ret hRF ?_|refine za.ret hfair ?_|refine za.ret hprov ?_);conv=>whnf)|((with_reducible refine XBr.mk' (fun h=>?_) fun h=>?_) <;> conv=>whnf)|fail
          all_goals first|(exfalso;omega)|(exfalso;exact absurd (show (true != true) = true by assumption) (by decide))|(exfalso;exact absurd (show (false != false) = true by assumption) (by decide)) | skip
          all_goals
           refine Walk.norm zb [] [(2,.pim (ldC l)),(3,.pim (pcC p)),(5,.ptr 0 0),(7,.ptr 2 0),(8,_),(20,.int .i64 0),(21,_),(22,.int .i64 0)] ⟨rfl,rfl,rfl,rfl,rfl,rfl,rfl,rfl,trivial⟩ ?_
           conv=>whnf
           repeat' first|((with_reducible first|apply XBr.tt|apply XBr.ff|refine XBr.y1 fun h=>?_|refine XBr.n1 fun h=>?_|refine XBr.beq (fun h=>?_) fun h=>?_) <;> conv=>whnf)|((first|refine za.ret (eqI _ _ p.ps (by omega)) ?_|refine za.ret hsm ?_|refine za.ret zx ?_);conv=>whnf)|fail
           all_goals first|exact XOut.bool rfl|(exfalso;exact absurd rfl (by assumption)) | skip
      | false =>
        have hg' : g = 3:=by rw [<- hgv,hG];rfl
        have hpe : zD l p = 3:=by unfold zD;rw [if_neg (by omega),if_neg (by rw [<- hga,hG];simp)]
        rw [if_neg (by omega)] at hfair hprov
        rw [hpe,<- hg'] at hfair hprov
        conv=>whnf
        repeat' first|((with_reducible first|apply XBr.ff|refine XBr.y fun h=>?_|refine XBr.n fun h=>?_|refine XBr.dec (fun h=>?_) fun h=>?_|refine XBr.y1 fun h=>?_|refine XBr.n1 fun h=>?_|refine XBr.beq (fun h=>?_) fun h=>?_|refine XBr.y2 fun h=>?_|refine XBr.n2 fun h=>?_|refine XBr.bne (fun h=>?_) fun h=>?_) <;> conv=>whnf)|((first|refine za.ret hfair ?_|refine za.ret hprov ?_);conv=>whnf)|((with_reducible refine XBr.mk' (fun h=>?_) fun h=>?_) <;> conv=>whnf)|fail
        all_goals first|(exfalso;omega)|(exfalso;exact absurd (show (false != false) = true by assumption) (by decide)) | skip
        all_goals
         refine Walk.norm zb [] [(2,.pim (ldC l)),(3,.pim (pcC p)),(5,.ptr 0 0),(7,.ptr 2 0),(8,_),(20,.int .i64 0),(21,_),(22,.int .i64 0)] ⟨rfl,rfl,rfl,rfl,rfl,rfl,rfl,rfl,trivial⟩ ?_
         conv=>whnf
         repeat' first|((with_reducible first|apply XBr.tt|apply XBr.ff|refine XBr.y1 fun h=>?_|refine XBr.n1 fun h=>?_|refine XBr.beq (fun h=>?_) fun h=>?_) <;> conv=>whnf)|((first|refine za.ret (eqI _ _ p.ps (by omega)) ?_|refine za.ret hsm ?_|refine za.ret zx ?_);conv=>whnf)|fail
         all_goals first|exact XOut.bool rfl|(exfalso;exact absurd rfl (by assumption)) | skip
    ·have hpe : zD l p = 3:=by unfold zD;rw [if_neg (by omega),if_neg (by rw [Bool.not_eq_true] at hun;rw [hun];simp)]
     have huu : ¬ (1 <= p.unit /\ p.unit <= 100):=fun h=>hun (zL.2 h)
     rw [if_neg (by omega)] at hfair hprov
     obtain ⟨E,hE⟩ : ∃ E : Int,E = zD l p:=⟨_,rfl⟩
     rw [<- hE] at hfair hprov
     have hE' : E = 3:=by omega
     have hE0 : E ≠ 0:=by omega
     clear hE hpe
     repeat' first|((with_reducible first|apply XBr.tt|apply XBr.ff|refine XBr.y fun h=>?_|refine XBr.n fun h=>?_|refine XBr.dec (fun h=>?_) fun h=>?_|refine XBr.y1 fun h=>?_|refine XBr.n1 fun h=>?_|refine XBr.beq (fun h=>?_) fun h=>?_|refine XBr.y2 fun h=>?_|refine XBr.n2 fun h=>?_|refine XBr.bne (fun h=>?_) fun h=>?_) <;> conv=>whnf) | with_reducible apply XBr.not|((first|refine za.ret hrc ?_|refine za.ret hFw ?_|refine za.ret hPF ?_|refine za.ret (eqI _ _ ([] : List Int) (by decide)) ?_);conv=>whnf)|fail
     all_goals first|(exfalso;omega) | skip
     all_goals
      refine Walk.loopK zb [] [(2,_),(3,_),(4,_),(5,_),(6,_),(7,_),(8,.int .i64 E),(102,_),(103,_)] ⟨rfl,rfl,rfl,rfl,rfl,rfl,congrArg (fun n=>some (AV.int .i64 n)) hE'.symm,rfl,rfl,trivial⟩ (fun k : Nat=>k <= p.ps.length) (fun k=>[(15,.int .i64 (msum p.ps k)),(104,natA k)]) (fun _=>[.cells (ldC (ownL l)),.cells (ldC (thL l)),.cells (pcC (kB p))]) (fun k=>p.ps.length - k) 0 (Nat.zero_le _) rfl ⟨rfl,rfl,trivial⟩ ?_
      intro k hk
      conv=>whnf
      by_cases hlt : k < p.ps.length
      ·have hmb:=jt (p.ps.getD k default)
       have hmn:=kk hlt
       have hmbd:=kU p.ps k hk
       repeat' first|((with_reducible first|apply XBr.ff|refine XBr.y fun h=>?_|refine XBr.n fun h=>?_|refine XBr.dec (fun h=>?_) fun h=>?_|refine XBr.y1 fun h=>?_|refine XBr.n1 fun h=>?_|refine XBr.beq (fun h=>?_) fun h=>?_|refine XInt.a ?_) <;> conv=>whnf)|((first|refine XIx.a ?_|refine za.ret (yE _) ?_);conv=>whnf)|fail
       all_goals
        refine zh.go (k + 1) (by omega) (by omega) rfl ⟨rfl,rfl,rfl,rfl,rfl,rfl,rfl,rfl,rfl,?_,rfl,trivial⟩
        rw [hmn];rfl
      ·skip
       repeat' first|((with_reducible first|apply XBr.ff|refine XBr.y fun h=>?_|refine XBr.n fun h=>?_|refine XBr.dec (fun h=>?_) fun h=>?_|refine XBr.y1 fun h=>?_|refine XBr.n1 fun h=>?_|refine XBr.beq (fun h=>?_) fun h=>?_|refine XBr.y2 fun h=>?_|refine XBr.n2 fun h=>?_|refine XBr.bne (fun h=>?_) fun h=>?_) <;> conv=>whnf)|((first|refine za.ret hfair ?_|refine za.ret hprov ?_);conv=>whnf)|((with_reducible refine XBr.mk' (fun h=>?_) fun h=>?_) <;> conv=>whnf)|fail
       all_goals first|(exfalso;omega)|(exfalso;exact absurd (show (false != false) = true by assumption) (by decide)) | skip
       all_goals
        refine Walk.norm zb [] [(2,.pim (ldC l)),(3,.pim (pcC p)),(5,.ptr 0 0),(7,.ptr 2 0),(8,_),(20,.int .i64 0),(21,_),(22,.int .i64 0)] ⟨rfl,rfl,rfl,rfl,rfl,rfl,rfl,rfl,trivial⟩ ?_
        conv=>whnf
        repeat' first|((with_reducible first|apply XBr.tt|apply XBr.ff|refine XBr.y1 fun h=>?_|refine XBr.n1 fun h=>?_|refine XBr.beq (fun h=>?_) fun h=>?_) <;> conv=>whnf)|((first|refine za.ret (eqI _ _ p.ps (by omega)) ?_|refine za.ret hsm ?_|refine za.ret zx ?_);conv=>whnf)|fail
        all_goals first|exact XOut.bool rfl|(exfalso;exact absurd rfl (by assumption)) | skip
   ·have hpe : zD l p = 2:=by unfold zD;rw [if_pos (by omega)]
    rw [if_neg (by omega)] at hfair hprov
    obtain ⟨E,hE⟩ : ∃ E : Int,E = zD l p:=⟨_,rfl⟩
    rw [<- hE] at hfair hprov
    have hE' : E = 2:=by omega
    have hE0 : E ≠ 0:=by omega
    clear hE hpe
    repeat' first|((with_reducible first|apply XBr.tt|apply XBr.ff|refine XBr.y fun h=>?_|refine XBr.n fun h=>?_|refine XBr.dec (fun h=>?_) fun h=>?_|refine XBr.y1 fun h=>?_|refine XBr.n1 fun h=>?_|refine XBr.beq (fun h=>?_) fun h=>?_|refine XBr.y2 fun h=>?_|refine XBr.n2 fun h=>?_|refine XBr.bne (fun h=>?_) fun h=>?_) <;> conv=>whnf) | with_reducible apply XBr.not|((first|refine za.ret hrc ?_|refine za.ret hFw ?_|refine za.ret hPF ?_|refine za.ret (eqI _ _ ([] : List Int) (by decide)) ?_);conv=>whnf)|fail
    all_goals first|(exfalso;omega) | skip
    all_goals
     refine Walk.loopK zb [] [(2,_),(3,_),(4,_),(5,_),(6,_),(7,_),(8,.int .i64 E),(102,_),(103,_)] ⟨rfl,rfl,rfl,rfl,rfl,rfl,congrArg (fun n=>some (AV.int .i64 n)) hE'.symm,rfl,rfl,trivial⟩ (fun k : Nat=>k <= p.ps.length) (fun k=>[(15,.int .i64 (msum p.ps k)),(104,natA k)]) (fun _=>[.cells (ldC (ownL l)),.cells (ldC (thL l)),.cells (pcC (kB p))]) (fun k=>p.ps.length - k) 0 (Nat.zero_le _) rfl ⟨rfl,rfl,trivial⟩ ?_
     intro k hk
     conv=>whnf
     by_cases hlt : k < p.ps.length
     ·have hmb:=jt (p.ps.getD k default)
      have hmn:=kk hlt
      have hmbd:=kU p.ps k hk
      repeat' first|((with_reducible first|apply XBr.ff|refine XBr.y fun h=>?_|refine XBr.n fun h=>?_|refine XBr.dec (fun h=>?_) fun h=>?_|refine XBr.y1 fun h=>?_|refine XBr.n1 fun h=>?_|refine XBr.beq (fun h=>?_) fun h=>?_|refine XInt.a ?_) <;> conv=>whnf)|((first|refine XIx.a ?_|refine za.ret (yE _) ?_);conv=>whnf)|fail
      all_goals
       refine zh.go (k + 1) (by omega) (by omega) rfl ⟨rfl,rfl,rfl,rfl,rfl,rfl,rfl,rfl,rfl,?_,rfl,trivial⟩
       rw [hmn];rfl
     ·skip
      repeat' first|((with_reducible first|apply XBr.ff|refine XBr.y fun h=>?_|refine XBr.n fun h=>?_|refine XBr.dec (fun h=>?_) fun h=>?_|refine XBr.y1 fun h=>?_|refine XBr.n1 fun h=>?_|refine XBr.beq (fun h=>?_) fun h=>?_|refine XBr.y2 fun h=>?_|refine XBr.n2 fun h=>?_|refine XBr.bne (fun h=>?_) fun h=>?_) <;> conv=>whnf)|((first|refine za.ret hfair ?_|refine za.ret hprov ?_);conv=>whnf)|((with_reducible refine XBr.mk' (fun h=>?_) fun h=>?_) <;> conv=>whnf)|fail
      all_goals first|(exfalso;omega)|(exfalso;exact absurd (show (false != false) = true by assumption) (by decide)) | skip
      all_goals
       refine Walk.norm zb [] [(2,.pim (ldC l)),(3,.pim (pcC p)),(5,.ptr 0 0),(7,.ptr 2 0),(8,_),(20,.int .i64 0),(21,_),(22,.int .i64 0)] ⟨rfl,rfl,rfl,rfl,rfl,rfl,rfl,rfl,trivial⟩ ?_
       conv=>whnf
       repeat' first|((with_reducible first|apply XBr.tt|apply XBr.ff|refine XBr.y1 fun h=>?_|refine XBr.n1 fun h=>?_|refine XBr.beq (fun h=>?_) fun h=>?_) <;> conv=>whnf)|((first|refine za.ret (eqI _ _ p.ps (by omega)) ?_|refine za.ret hsm ?_|refine za.ret zx ?_);conv=>whnf)|fail
       all_goals first|exact XOut.bool rfl|(exfalso;exact absurd rfl (by assumption)) | skip
 ·rw [if_neg h0] at hfair hprov hfw0
  rw [hfw0] at hPF
  clear hfw0 hF
  generalize zi l = E at h0 hrc hPF hfair hprov
  have hE' : E = E:=rfl
  repeat' first|((with_reducible first|apply XBr.tt|apply XBr.ff|refine XBr.y1 fun h=>?_|refine XBr.n1 fun h=>?_|refine XBr.beq (fun h=>?_) fun h=>?_|refine XBr.y2 fun h=>?_|refine XBr.n2 fun h=>?_|refine XBr.bne (fun h=>?_) fun h=>?_) <;> conv=>whnf) | with_reducible apply XBr.not|((first|refine za.ret hrc ?_|refine za.ret hPF ?_|refine za.ret (eqI _ _ ([] : List Int) (by decide)) ?_);conv=>whnf)|fail
  refine Walk.loopK zb [] [(2,_),(3,_),(4,_),(5,_),(6,_),(7,_),(8,.int .i64 E),(102,_),(103,_)] ⟨rfl,rfl,rfl,rfl,rfl,rfl,congrArg (fun n=>some (AV.int .i64 n)) hE'.symm,rfl,rfl,trivial⟩ (fun k : Nat=>k <= p.ps.length) (fun k=>[(15,.int .i64 (msum p.ps k)),(104,natA k)]) (fun _=>[.cells (ldC (ownL l)),.cells (ldC (thL l)),.cells (pcC (kB p))]) (fun k=>p.ps.length - k) 0 (Nat.zero_le _) rfl ⟨rfl,rfl,trivial⟩ ?_
  intro k hk
  conv=>whnf
  by_cases hlt : k < p.ps.length
  ·have hmb:=jt (p.ps.getD k default)
   have hmn:=kk hlt
   have hmbd:=kU p.ps k hk
   repeat' first|((with_reducible first|apply XBr.ff|refine XBr.y fun h=>?_|refine XBr.n fun h=>?_|refine XBr.dec (fun h=>?_) fun h=>?_|refine XBr.y1 fun h=>?_|refine XBr.n1 fun h=>?_|refine XBr.beq (fun h=>?_) fun h=>?_|refine XInt.a ?_) <;> conv=>whnf)|((first|refine XIx.a ?_|refine za.ret (yE _) ?_);conv=>whnf)|fail
   all_goals
    refine zh.go (k + 1) (by omega) (by omega) rfl ⟨rfl,rfl,rfl,rfl,rfl,rfl,rfl,rfl,rfl,?_,rfl,trivial⟩
    rw [hmn];rfl
  ·skip
   repeat' first|((with_reducible first|apply XBr.ff|refine XBr.y fun h=>?_|refine XBr.n fun h=>?_|refine XBr.dec (fun h=>?_) fun h=>?_|refine XBr.y1 fun h=>?_|refine XBr.n1 fun h=>?_|refine XBr.beq (fun h=>?_) fun h=>?_|refine XBr.y2 fun h=>?_|refine XBr.n2 fun h=>?_|refine XBr.bne (fun h=>?_) fun h=>?_) <;> conv=>whnf)|((first|refine za.ret hfair ?_|refine za.ret hprov ?_);conv=>whnf)|((with_reducible refine XBr.mk' (fun h=>?_) fun h=>?_) <;> conv=>whnf)|fail
   all_goals first|(exfalso;omega)|(exfalso;exact absurd (show (false != false) = true by assumption) (by decide)) | skip
   all_goals
    refine Walk.norm zb [] [(2,.pim (ldC l)),(3,.pim (pcC p)),(5,.ptr 0 0),(7,.ptr 2 0),(8,_),(20,.int .i64 0),(21,_),(22,.int .i64 0)] ⟨rfl,rfl,rfl,rfl,rfl,rfl,rfl,rfl,trivial⟩ ?_
    conv=>whnf
    repeat' first|((with_reducible first|apply XBr.tt|apply XBr.ff|refine XBr.y1 fun h=>?_|refine XBr.n1 fun h=>?_|refine XBr.beq (fun h=>?_) fun h=>?_) <;> conv=>whnf)|((first|refine za.ret (eqI _ _ p.ps (by omega)) ?_|refine za.ret hsm ?_|refine za.ret zx ?_);conv=>whnf)|fail
    all_goals first|exact XOut.bool rfl|(exfalso;exact absurd rfl (by assumption)) | skip
end GA
end
section
namespace GA
open Go Go.RowKit Go.Proofs
theorem stuckL {l : Ld} (o : LdW l) (h : zi l = 0) : Comp Tryz.prog 47 [ldA (ownL l)] (.tup [slA (stuK l l.sacks.length),.int .i64 0]):=by
 have ow : LdW (ownL l):=⟨nofun,o.h1,o.h2,o.h3⟩
 have e:=stuck_c (ownL l) ow
 unfold zco at e
 rw [show zi (ownL l) = zi l from rfl,if_pos h,j2,stuK_re] at e
 exact e
theorem bundlesL {l : Ld} (o : LdW l) (h : zi l = 0) : Comp Tryz.prog 46 [ldA (ownL l)] (.tup [.sl (bunK l l.sacks.length).isEmpty (wj (bunK l l.sacks.length)),.int .i64 0]):=by
 have ow : LdW (ownL l):=⟨nofun,o.h1,o.h2,o.h3⟩
 have e:=zbE (ownL l) ow
 unfold qt at e
 rw [show zi (ownL l) = zi l from rfl,if_pos h,j2,bunK_re] at e
 exact e
theorem weightsL {l : Ld} (o : LdW l) (h : zi l = 0) : Comp Tryz.prog 8 [ldA (ownL l)] (.tup [slA (l.sacks.map (zO l)),.int .i64 0]):=by
 have ow : LdW (ownL l):=⟨nofun,o.h1,o.h2,o.h3⟩
 have e:=gA (ownL l) ow
 unfold w6 at e
 rw [show zi (ownL l) = zi l from rfl,if_pos h] at e
 exact e
theorem stuckN {l : Ld} (o : LdW l) (h : zi l ≠ 0) : Comp Tryz.prog 47 [ldA (ownL l)] (.tup [.sl true [],.int .i64 (zi l)]):=by
 have ow : LdW (ownL l):=⟨nofun,o.h1,o.h2,o.h3⟩
 have e:=stuck_c (ownL l) ow
 unfold zco at e
 rwa [show zi (ownL l) = zi l from rfl,if_neg h] at e
theorem bundlesN {l : Ld} (o : LdW l) (h : zi l ≠ 0) : Comp Tryz.prog 46 [ldA (ownL l)] (.tup [.sl true [],.int .i64 (zi l)]):=by
 have ow : LdW (ownL l):=⟨nofun,o.h1,o.h2,o.h3⟩
 have e:=zbE (ownL l) ow
 unfold qt at e
 rwa [show zi (ownL l) = zi l from rfl,if_neg h] at e
theorem weightsN {l : Ld} (o : LdW l) (h : zi l ≠ 0) : Comp Tryz.prog 8 [ldA (ownL l)] (.tup [.sl true [],.int .i64 (zi l)]):=by
 have ow : LdW (ownL l):=⟨nofun,o.h1,o.h2,o.h3⟩
 have e:=gA (ownL l) ow
 unfold w6 at e
 rwa [show zi (ownL l) = zi l from rfl,if_neg h] at e
theorem vI (l : Ld) : ∀ k,∀ r ∈ bunK l k,r.length <= 1000
 | 0,r,h=>by simp [bunK] at h
 | k + 1,r,h=>by
   unfold bunK at h
   split at h
   ·rcases List.mem_append.1 h with h | h
    ·exact vI l k r h
    ·simp only [List.mem_singleton] at h;subst h;have:=yw (ndS l k);omega
   ·exact vI l k r h
set_option maxHeartbeats 2000000 in
theorem fp (l : Ld) (hw : l.nla = true -> l.apart = []) : Comp Tryz.prog 12 [ldA l] (.bool true):=by
 have hgr:=qf l
 refine Comp.body' (T:=tab) (res:=[.tmp 2]) zb [3,4] Tryz.func12 rfl (by kernel_rfl) Tryz.ntmps12 rfl (by simp only [List.length_cons,List.length_nil];decide) (by simp only [lowL,AV.low,ldL];rfl) ?_;conv=>whnf
 by_cases hg : jg l = true
 ·rw [hg] at hgr
  repeat' first|((first|(with_reducible apply XBr.tt)|(refine za.ret hgr ?_)|(refine za.ret zx ?_));conv=>whnf)|fail
  exact XOut.bool rfl
 ·rw [Bool.not_eq_true] at hg
  rw [hg] at hgr
  have hgl : l.sacks.length <= 14 /\ l.apart.length <= 12 /\ l.wth.length <= 12:=by
   unfold jg at hg
   simp only [Bool.or_eq_false_iff,decide_eq_false_iff_not] at hg
   omega
  have lw : LdW l:=⟨hw,by omega,by omega,by omega⟩
  have how:=own_c l lw
  have hth:=vi l lw
  have hsm:=zao l lw
  have ow : LdW (ownL l):=⟨nofun,lw.h1,lw.h2,lw.h3⟩
  have tw : LdW (thL l):=⟨hw,lw.h1,lw.h2,lw.h3⟩
  have hck : Comp Tryz.prog 16 [ldA (ownL l)] (.int .i64 (zi l)):=kS (ownL l) ow.w ow.h1 ow.h2 ow.h3
  have hrc : Comp Tryz.prog 45 [ldA (thL l)] (.int .i64 (zi l)):=kQ (thL l) tw
  have e1 : ((l.sacks.map skA).length : Int) = l.sacks.length:=by rw [List.length_map]
  repeat' first|((first|(with_reducible apply XBr.ff)|(refine za.ret hgr ?_));conv=>whnf)|fail
  refine Walk.place (Walk.place ?_)
  apply Walk.drawX zb zk [] [4,5,6,7] (fun fl=>match fl with
   | [a,b,x,y]=>[(bif a then .cells (bif x then ldC (ownL l) else [.int .i64 0,.int .i64 0,.sl true [],.sl true [],.sl true []]) else .free),
     (bif b then .cells (bif y then ldC (thL l) else [.int .i64 0,.int .i64 0,.sl true [],.sl true [],.sl true []]) else .free)]
   | _=>[]) [_,_,_,_,.ptr 0 0,.ptr 1 0,_,_] (by kernel_rfl) rfl
  ·skip
   repeat' first|(with_reducible apply XAnd.mk)|((first|(with_reducible apply Chk.go)|(with_reducible apply ChkA.go));conv=>whnf)|(exact zg.mk rfl rfl)|(with_reducible exact trivial)|((first|(refine za.ret how ?_)|(refine za.ret hth ?_));conv=>whnf)|(first|((refine yy.at 0 rfl ?_);(conv=>whnf);exact zg.mk rfl rfl)|((refine yy.at 1 rfl ?_);(conv=>whnf);exact zg.mk rfl rfl))|fail
  ·skip
   repeat' first|(with_reducible apply XAnd.mk)|((first|(with_reducible apply Chk.go)|(with_reducible apply ChkF.go)|(with_reducible apply ChkB.go));conv=>whnf)|(exact zg.mk rfl rfl)|(with_reducible exact trivial)|((first|(refine za.ret how ?_)|(refine za.ret hth ?_));conv=>whnf)|(first|((refine yy.at 0 rfl ?_);(conv=>whnf);exact zg.mk rfl rfl)|((refine yy.at 1 rfl ?_);(conv=>whnf);exact zg.mk rfl rfl))|fail
  conv=>whnf
  by_cases h0 : zi l = 0
  ·have ok:=(zB l).1 h0
   have tk : LdOk (thL l):=zam ok l.sacks.isEmpty l.nla l.nlw
   have hn:=ok.n
   have hp9:=pow9 hn
   have hW:=weightsL lw h0
   have hB:=bundlesL lw h0
   have hS:=stuckL lw h0
   rw [h0] at hck hrc
   have hwt : ∀ k,k < l.sacks.length -> Comp Tryz.prog 48 [ldA (thL l),natA k] (.int .i64 (zO l (l.sacks.getD k default))):=fun k hk=>jY (thL l) tk k hk
   have hbu : ∀ k,k < l.sacks.length -> Comp Tryz.prog 49 [ldA (thL l),natA k] (.sl false (bools (z8 l.sacks.length (ndS l k)))):=fun k hk=>by
    have e:=fi (thL l) tk k hk
    rw [show ndS (thL l) k = ndS l k from zcK l _ _ _ k] at e;exact e
   have hli : ∀ k,Comp Tryz.prog 50 [.sl false (bools (z8 l.sacks.length (ndS l k)))] (slA (bits (ndS l k))):=fun k=>by
    have e:=gy false (z8 l.sacks.length (ndS l k)) (by rw [z5];omega)
    rwa [zc2 hn (vv ok k)] at e
   have hri : ∀ k,Comp Tryz.prog 51 [ldA (thL l),.sl false (bools (z8 l.sacks.length (ndS l k)))] (.bool (zn (zf l) (ndS l k))):=fun k=>by
    have e:=wQ (thL l) tk false (z8 l.sacks.length (ndS l k)) (z5 _ _)
    rw [show zn (zf (thL l)) (setN (z8 l.sacks.length (ndS l k))) = zn (zf l) (setN (z8 l.sacks.length (ndS l k))) from kX l _ _ _ _,v3 (vv ok k)] at e;exact e
   have hbt : ∀ k,k < l.sacks.length -> 0 < (bits (ndS l k)).length /\ (bits (ndS l k)).length <= 62 /\ ((bits (ndS l k)).getD 0 0 = (k : Int) ↔ isF l k = true):=fun k hk=>by
    have hb:=j3 ok hk
    have h1:=vv ok k
    have hne : ndS l k ≠ 0:=fk hb
    have h5 : ndS l k < 512:=by omega
    have hf:=first_iff (i:=k) hne h5
    refine ⟨?_,yw _,?_⟩
    ·exact List.length_pos_iff.2 (zcf ⟨ndS l k,h5⟩ hne).2.2
    ·unfold isF;rw [beq_iff_eq];exact hf
   have hst : ∀ k,stuK l (k + 1) = if (isF l k && !zn (zf l) (ndS l k)) = true then stuK l k ++ [(k : Int)] else stuK l k:=fun _=>rfl
   have hbn : ∀ k,bunK l (k + 1) = if isF l k = true then bunK l k ++ [bits (ndS l k)] else bunK l k:=fun _=>rfl
   have hstl:=qH l
   have hbnl:=qQ l
   have hbr:=vI l
   generalize zf l = d at hri hst
   repeat' first|((first|(refine za.ret hrc ?_)|(refine za.ret hW ?_)|(refine za.ret hB ?_)|(refine za.ret hS ?_));conv=>whnf)|fail
   refine Walk.nilgr 12 3 rfl (Walk.nilgr 13 3 rfl (Walk.nilgr 14 22 rfl ?_))
   refine Walk.loop zb [] (fun k : Nat=>k <= l.sacks.length) (fun k=>[(1,.pim (ldC l)),(3,.ptr 0 0),(4,.ptr 1 0),(5,.int .i64 0),(6,slA (l.sacks.map (zO l))),(7,.int .i64 0),(8,.sl (bunK l l.sacks.length).isEmpty (wj (bunK l l.sacks.length))),(9,.int .i64 0),(10,slA (stuK l l.sacks.length)),(11,.int .i64 0),(44,natA l.sacks.length),(45,natA k),(12,.gr 2 (wsK l k).length),(13,.gr 3 (stuK l k).length),(14,.gr 4 (bunK l k).length)])
    (fun k=>[.cells (ldC (ownL l)),.cells (ldC (thL l)),.grow 3 (wsK l k).isEmpty (ints (wsK l k)),.grow 3 (stuK l k).isEmpty (ints (stuK l k)),.grow 22 (bunK l k).isEmpty (wj (bunK l k))]) (fun k=>l.sacks.length - k) 0 (Nat.zero_le _) rfl ⟨rfl,rfl,rfl,rfl,rfl,rfl,rfl,rfl,rfl,rfl,congrArg (fun n=>some (AV.int .i64 n)) e1,rfl,rfl,rfl,rfl,trivial⟩ ?_
   intro k hk
   have qw:=wsK_len l hk
   have qn:=fun h=>zdB l (k:=k) h
   have qs:=hst k
   have qb:=hbn k
   have ls:=hstl k
   have lb:=hbnl k
   have hwk:=hwt k
   have hbk:=hbu k
   have hlk:=hli k
   have hrk:=hri k
   have htk:=hbt k
   have aw:=fun h=>wsK_all l (k:=k) h
   have aS : k = l.sacks.length -> stuK l k = stuK l l.sacks.length:=fun h=>by rw [h]
   have ab : k = l.sacks.length -> bunK l k = bunK l l.sacks.length:=fun h=>by rw [h]
   clear hst hbn hstl hbnl hwt hbu hli hri hbt
   generalize zn d (ndS l k) = r at qs hrk
   generalize z8 l.sacks.length (ndS l k) = bs at hbk hlk hrk
   generalize bits (ndS l k) = bt at hlk qb htk
   generalize wsK l k = wk at qw qn aw
   generalize stuK l k = sk at qs ls aS
   generalize bunK l k = bk at qb lb ab
   conv=>whnf
   repeat' first|(with_reducible apply XBr.not)|((with_reducible apply XBr.dec) <;> (intro h;first|(exfalso;omega)|((try simp only [List.length_map] at h);first|(exfalso;omega)|(conv=>whnf))))|((with_reducible apply XBr.beq) <;> (intro h;first|(exfalso;omega)|(conv=>whnf)))|((with_reducible apply XBr.bne) <;> (intro h;first|(exfalso;omega)|(conv=>whnf)))|((with_reducible refine XInt.i64 (by omega) (by omega) ?_);conv=>whnf)|((with_reducible refine zj.mk ?_ ?_);(first | omega | rfl | decide|exact ⟨rfl,by decide,rfl⟩|exact zz _|exact zp _|exact zq _|(unfold Room;constructor <;> ((try simp) <;> omega))|exact ⟨rfl,by simp only [List.length_map],by unfold Room;constructor <;> ((try simp) <;> omega)⟩|exact ⟨by omega,by omega,by unfold Room;constructor <;> ((try simp) <;> omega)⟩);conv=>whnf)|((first|((with_reducible refine XIx.map ?_ ?_ ?_ ?_);omega;omega;(intro _;rfl))|(refine za.ret (hwk (by omega)) ?_)|(refine za.ret (hbk (by omega)) ?_)|(refine za.ret hlk ?_)|(refine za.ret hrk ?_));conv=>whnf)|((with_reducible apply XBr.mk') <;> (intro h;conv=>whnf))|fail
   ·have hT : isF l k = true:=(htk (by omega)).2.2.1 (by assumption)
    simp only [hT,h,Bool.true_and,Bool.not_true,Bool.not_false,Bool.false_eq_true,if_true,if_false] at qs qb
    refine zh.go (k + 1) (by omega) (by omega) ?_ ⟨rfl,rfl,rfl,rfl,rfl,rfl,rfl,rfl,rfl,rfl,rfl,rfl,?_,?_,?_,trivial⟩
    ·rw [qn (by omega),qs,qb];simp only [List.map_append,ya];rfl
    ·rw [qn (by omega)];simp only [List.length_append];rfl
    ·rw [qs];first | rfl|(simp only [List.length_append];rfl)
    ·rw [qb];first | rfl|(simp only [List.length_append];rfl)
   ·have hT : isF l k = true:=(htk (by omega)).2.2.1 (by assumption)
    simp only [hT,h,Bool.true_and,Bool.not_true,Bool.not_false,Bool.false_eq_true,if_true,if_false] at qs qb
    refine zh.go (k + 1) (by omega) (by omega) ?_ ⟨rfl,rfl,rfl,rfl,rfl,rfl,rfl,rfl,rfl,rfl,rfl,rfl,?_,?_,?_,trivial⟩
    ·rw [qn (by omega),qs,qb];simp only [List.map_append,ya];rfl
    ·rw [qn (by omega)];simp only [List.length_append];rfl
    ·rw [qs];first | rfl|(simp only [List.length_append];rfl)
    ·rw [qb];first | rfl|(simp only [List.length_append];rfl)
   ·have hT : isF l k = false:=by
     cases hf : isF l k
     ·rfl
     ·exact absurd ((htk (by omega)).2.2.2 hf) h
    simp only [hT,Bool.false_and,Bool.false_eq_true,if_false] at qs qb
    refine zh.go (k + 1) (by omega) (by omega) ?_ ⟨rfl,rfl,rfl,rfl,rfl,rfl,rfl,rfl,rfl,rfl,rfl,rfl,?_,?_,?_,trivial⟩
    ·rw [qn (by omega),qs,qb];simp only [List.map_append,ya];rfl
    ·rw [qn (by omega)];simp only [List.length_append];rfl
    ·rw [qs];rfl
    ·rw [qb];rfl
   have z1:=aw (by omega)
   have z2:=aS (by omega)
   have z3:=ab (by omega)
   subst z1
   rw [z2,z3]
   clear z2 z3 aw aS ab qn qs qb
   clear ls lb
   have ls:=qH l l.sacks.length
   have lb:=qQ l l.sacks.length
   have hbr':=vI l l.sacks.length
   generalize stuK l l.sacks.length = sk at ls
   generalize bunK l l.sacks.length = bk at lb hbr'
   refine Walk.norm zb [] [(1,.pim (ldC l)),(3,.ptr 0 0),(5,.int .i64 0),(6,slA (l.sacks.map (zO l))),(7,.int .i64 0),(8,.sl bk.isEmpty (wj bk)),(9,.int .i64 0),(10,slA sk),(11,.int .i64 0),(12,.gr 2 (l.sacks.map (zO l)).length),(13,.gr 3 sk.length),(14,.gr 4 bk.length)] ⟨rfl,rfl,rfl,rfl,rfl,rfl,rfl,rfl,rfl,rfl,rfl,rfl,trivial⟩ ?_
   conv=>whnf
   trace_state
   repeat' first|((with_reducible apply XBr.tt);conv=>whnf)|((with_reducible apply XBr.beq) <;> (intro h;first|(exfalso;omega)|(conv=>whnf)))|((first|(refine za.ret hck ?_)|(refine za.lend (eqI _ _ (l.sacks.map (zO l)) (by rw [List.length_map];omega)) (.cons (Froz.low (lowI _)) (.cons (Froz.grow (i:=2) rfl (by rw [List.length_map]) (lowI _)) .nil)) rfl ?_)|(refine za.lend (eqRows _ _ bk (by omega) hbr') (.cons (Froz.low (lowRw _)) (.cons (Froz.grow (i:=4) rfl (by rw [List.length_map]) (lowRw _)) .nil)) rfl ?_)|(refine za.lend (eqI _ _ sk (by omega)) (.cons (Froz.low (lowI _)) (.cons (Froz.grow (i:=3) rfl (by rw [List.length_map]) (lowI _)) .nil)) rfl ?_)|(refine za.ret hsm ?_)|(refine za.ret zx ?_));conv=>whnf)|fail
   all_goals first|exact XOut.bool rfl|(exfalso;exact absurd rfl (by assumption))
  ·have hW:=weightsN lw h0
   have hB:=bundlesN lw h0
   have hS:=stuckN lw h0
   generalize zi l = e at h0 hck hrc hW hB hS
   repeat' first|((first|(refine za.ret hrc ?_)|(refine za.ret hW ?_)|(refine za.ret hB ?_)|(refine za.ret hS ?_));conv=>whnf)|fail
   refine Walk.loop zb [] (fun _ : Unit=>True) (fun _=>[(1,.pim (ldC l)),(3,.ptr 0 0),(4,.ptr 1 0),(5,.int .i64 e),(6,.sl true []),(7,.int .i64 e),(8,.sl true []),(9,.int .i64 e),(10,.sl true []),(11,.int .i64 e),(12,.sl true []),(13,.sl true []),(14,.sl true []),(44,natA l.sacks.length),(45,natA 0)]) (fun _=>[.cells (ldC (ownL l)),.cells (ldC (thL l))]) (fun _=>0) () trivial rfl ⟨rfl,rfl,rfl,rfl,rfl,rfl,rfl,rfl,rfl,rfl,rfl,rfl,rfl,congrArg (fun n=>some (AV.int .i64 n)) e1,rfl,trivial⟩ ?_
   intro _ _
   conv=>whnf
   repeat' first|((with_reducible apply XBr.dec) <;> (intro h;first|(exfalso;omega)|((try simp only [List.length_map] at h);first|(exfalso;omega)|(conv=>whnf))))|((with_reducible apply XBr.bne) <;> (intro h;first|(exfalso;omega)|(conv=>whnf)))|fail
   all_goals
    refine Walk.norm zb [] [(1,.pim (ldC l)),(3,.ptr 0 0),(5,.int .i64 e),(6,.sl true []),(7,.int .i64 e),(8,.sl true []),(9,.int .i64 e),(10,.sl true []),(11,.int .i64 e),(12,.sl true []),(13,.sl true []),(14,.sl true [])] ⟨rfl,rfl,rfl,rfl,rfl,rfl,rfl,rfl,rfl,rfl,rfl,rfl,trivial⟩ ?_
    conv=>whnf
    repeat' first|((with_reducible apply XBr.tt);conv=>whnf)|((with_reducible apply XBr.beq) <;> (intro h;first|(exfalso;omega)|(conv=>whnf)))|((first|(refine za.ret hck ?_)|(refine za.ret (eqI true true [] (by decide)) ?_)|(refine za.ret (eqRows true true [] (by decide) (by simp)) ?_)|(refine za.ret hsm ?_)|(refine za.ret zx ?_));conv=>whnf)|fail
    all_goals first|exact XOut.bool rfl|(exfalso;exact absurd rfl (by assumption))
end GA
end
section
namespace GA
open Go Go.RowKit Go.Proofs
theorem wU (l : Ld) (o : LdOk l) : Comp Tryz.prog 63 [ldA l] (.sl false (ints (zG l))):=by
 have hn:=o.n
 have e1 : ((l.sacks.map skA).length : Int) = l.sacks.length:=by rw [List.length_map]
 refine Comp.body (T:=tab) (res:=[.tmp 2]) zb [] Tryz.func63 rfl (by kernel_rfl) Tryz.ntmps63 rfl (by simp only [List.length_cons,List.length_nil];decide) (by simp only [lowL,AV.low,ldL];rfl) ?_;conv=>whnf
 repeat' first|((with_reducible refine zj.mk ?_ ?_);(first | omega | rfl | decide|exact ⟨rfl,by decide,rfl⟩|exact zz _|exact zp _|exact zq _|(unfold Room;constructor <;> ((try simp) <;> omega))|exact ⟨rfl,by simp only [List.length_map],by unfold Room;constructor <;> ((try simp) <;> omega)⟩|exact ⟨by omega,by omega,by unfold Room;constructor <;> ((try simp) <;> omega)⟩);conv=>whnf)|fail
 refine Walk.loop zb [] (fun k : Nat=>k <= l.sacks.length) (fun k=>[(1,.pim (ldC l)),(2,.sl true []),(3,.gr 0 6),(4,natA k)]) (fun k=>[.grow 3 false (ints ((l.sacks.take k).foldl (zW l) (List.replicate 6 0)))]) (fun k=>l.sacks.length - k) 0 (Nat.zero_le _) rfl ⟨rfl,rfl,rfl,rfl,trivial⟩ ?_
 intro k hk
 have hp:=wR o k hk
 have hnx:=fun h=>zS (xs:=l.sacks) (i:=k) h
 have hall : k = l.sacks.length -> l.sacks.take k = l.sacks:=fun h=>by rw [h,List.take_length]
 have hfin : k = l.sacks.length -> (l.sacks.take k).foldl (zW l) (List.replicate 6 0) = zG l:=fun h=>by rw [hall h];rfl
 have hst : k < l.sacks.length -> (l.sacks.take (k + 1)).foldl (zW l) (List.replicate 6 0) = zW l ((l.sacks.take k).foldl (zW l) (List.replicate 6 0)) (l.sacks.getD k default):=fun h=>by rw [hnx h,List.foldl_append];rfl
 generalize (l.sacks.take k).foldl (zW l) (List.replicate 6 0) = out at hp hfin hst
 obtain ⟨hl,hb⟩:=hp
 conv=>whnf
 repeat' first|((with_reducible apply XBr.dec) <;> (intro h;first|(exfalso;omega)|((try simp only [List.length_map] at h);first|(exfalso;omega)|(conv=>whnf))))|fail
 ·have hs:=o.sk _ (zu (d:=default) (show k < l.sacks.length by omega))
  have hw:=jY l o k (by omega)
  have hwt:=vS o (zu (d:=default) (show k < l.sacks.length by omega))
  have hv:=hb (l.sacks.getD k default).o.toNat
  have hv2 : 0 <= out.getD (l.sacks.getD k default).o.toNat default /\ out.getD (l.sacks.getD k default).o.toNat default <= 100 * k:=hv
  have hst':=hst (by omega)
  have hps : zW l out (l.sacks.getD k default) = out.set (l.sacks.getD k default).o.toNat (out.getD (l.sacks.getD k default).o.toNat default + zO l (l.sacks.getD k default)):=rfl
  generalize zO l (l.sacks.getD k default) = w at hw hwt hps
  apply Walk.drawX zb zk [] [21] (hsV _ [id,fun H=>H.set 0 (.grow 3 false (ints (out.set (l.sacks.getD k default).o.toNat (out.getD (l.sacks.getD k default).o.toNat default + w))))]) [_,_,_,_,_,_,_,_,_,_,_,_,_,_,_,_,_,_,_,_,_,_] (by kernel_rfl) rfl
  ·skip
   repeat' first|((first|(with_reducible refine XInt.i64 (by omega) (by omega) ?_)|((with_reducible refine XIx.nat ?_ ?_ ?_);omega;(intro _;rfl)));conv=>whnf)|(with_reducible apply XAnd.mk)|((first|(with_reducible apply Chk.go)|(with_reducible apply ChkA.go));conv=>whnf)|(exact zg.mk rfl rfl)|(with_reducible exact trivial)|((first|(refine za.ret hw ?_)|(refine zj.mk ⟨by rw [List.length_map];exact hl,rfl,by omega,by omega⟩ ?_)|(refine XGet.map hl.symm (by omega) ?_)|(refine XPut.ints out _ rfl hl.symm (by omega) ?_));conv=>whnf)|fail
  ·skip
   repeat' first|(with_reducible apply XAnd.mk)|((first|(with_reducible apply ChkF.go)|(with_reducible apply ChkB.go));conv=>whnf)|(with_reducible exact trivial)|fail
  ·conv=>whnf
   repeat' first|((with_reducible refine XInt.i64 (by omega) (by omega) ?_);conv=>whnf)|fail
   refine zh.go (k + 1) (by omega) (by omega) ?_ ⟨rfl,rfl,rfl,rfl,trivial⟩
   rw [hst',hps];rfl
 ·rw [<- hfin (by omega)]
  exact ⟨Froz.grow rfl (by rw [List.length_map];exact hl) (lowI _)⟩
end GA
end
