/- Part 5 of a proof: S19, S20, S21, S23, S24, S25, S26, S27, S28, S36, S37, S30b, Abs32, S39, S41, S44, S45, S46, S47, S48, S49, S50, S51, Abs33, S60, Abs34, AbsS, Abs35, S66. -/
import Derived.Test.YtnjobcijpmnloaaGreatP4
import Derived.Test.YtnjobcijpmnloaaGreatRows
set_option linter.unusedVariables false
set_option linter.unusedSimpArgs false
set_option maxRecDepth 8000
section
namespace GA
open Go Go.RowKit Go.Proofs
def quoA (parts out : List Int) (i : Nat) : Int × Int:=(parts.getD i 0,2 * out.getD i 0 + 1)
def pq (parts out : List Int) (st : Nat × (Int × Int)) (i : Nat) : Nat × (Int × Int):=
 if (st.2 = (0,1) /\ 0 < parts.getD i 0) \/ ky (quoA parts out i) st.2 = true then (i,quoA parts out i) else st
def pqI (parts out : List Int) (i : Nat) : Nat × (Int × Int):=(List.range i).foldl (pq parts out) (0,(0,1))
def whoR (parts out : List Int) : Nat:=(pqI parts out 6).1
def jx (parts out : List Int) : List Int:=out.set (whoR parts out) (out.getD (whoR parts out) 0 + 1)
def zJ (parts : List Int) : Nat -> List Int
 | 0=>List.replicate 6 0
 | n + 1=>jx parts (zJ parts n)
theorem wc (parts out : List Int) (i : Nat) : pqI parts out (i + 1) = pq parts out (pqI parts out i) i:=by
 unfold pqI;rw [List.range_succ,List.foldl_append];rfl
def fa (n : Nat) (out : List Int) : Prop:=out.length = 6 /\ ∀ i,0 <= out.getD i 0 /\ out.getD i 0 <= n
theorem pqI_ok {parts out : List Int} {k : Nat} (hp : jX 9 parts) (ho : fa k out) : ∀ i,i <= 6 -> (pqI parts out i).1 < 6 /\ (0 <= (pqI parts out i).2.1 /\ (pqI parts out i).2.1 <= 900) /\ (1 <= (pqI parts out i).2.2 /\ (pqI parts out i).2.2 <= 2 * k + 1)
 | 0,_=>by simp [pqI];omega
 | i + 1,h=>by
   have ih:=pqI_ok hp ho i (by omega)
   have a:=hp.2 i
   have b:=ho.2 i
   rw [wc];unfold pq
   split
   ·simp only [quoA];omega
   ·exact ih
theorem kb {parts : List Int} (hp : jX 9 parts) : ∀ n,fa n (zJ parts n)
 | 0=>⟨rfl,fun i=>by
   show 0 <= (List.replicate 6 (0 : Int)).getD i 0 /\ (List.replicate 6 (0 : Int)).getD i 0 <= _
   rw [List.getD_eq_getElem?_getD,List.getElem?_replicate];split <;> simp⟩
 | n + 1=>by
   have ih:=kb hp n
   refine ⟨by simp [zJ,jx,ih.1],fun i=>?_⟩
   have a:=ih.2 i
   have b:=ih.2 (whoR parts (zJ parts n))
   show 0 <= ((zJ parts n).set (whoR parts (zJ parts n)) ((zJ parts n).getD (whoR parts (zJ parts n)) 0 + 1)).getD i 0 /\ ((zJ parts n).set (whoR parts (zJ parts n)) ((zJ parts n).getD (whoR parts (zJ parts n)) 0 + 1)).getD i 0 <= _
   rw [zaV]
   split <;> omega
def zN (l : Ld) (pay : Int) : Int:=if zi l ≠ 0 then zi l else if inB pay 0 500 = false then 3 else if 0 < pay /\ zM (zG l) = 0 then 6 else 0
def kD (l : Ld) (pay : Int) : AV × List Blk:=if zN l pay = 0 then (.tup [.gr 0 6,.int .i64 0],[.grow 3 false (ints (zJ (zG l) pay.toNat))]) else (.tup [.sl true [],.int .i64 (zN l pay)],[])
theorem za3 (l : Ld) (pay : Int) : (kD l pay).1.low (kD l pay).2.length = true /\ ∀ x ∈ (kD l pay).2,x.low (kD l pay).2.length = true:=by
 unfold kD;split
 ·exact ⟨rfl,fun x hx=>by simp only [List.mem_cons,List.not_mem_nil,or_false] at hx;subst hx;exact lowI _⟩
 ·exact ⟨rfl,fun x hx=>by simp at hx⟩
theorem jK.err {H : List Blk} {r : AV} (hr : r.low 0 = true) : jK H r r []:=.mk' [] rfl (by simp) trivial (AV.ren_low0 hr).symm
theorem wF (f : Nat -> Nat) (t : TypeId) (nl : Bool) (xs : List Int) : (Blk.grow t nl (ints xs)).ren f = .grow t nl (ints xs):=Blk.ren_low (n:=0) (fun i hi=>by omega) (lowI xs)
def jL (l : Ld) (pay : Int) : AV:=if zN l pay = 0 then .tup [.sl false (ints (zJ (zG l) pay.toNat)),.int .i64 0] else .tup [.sl true [],.int .i64 (zN l pay)]
theorem share_g (l : Ld) (pay : Int) (o : LdW l) : kW Tryz.prog 9 [ldA l,.int .i64 pay] (kD l pay).1 (kD l pay).2:=by
 refine kW.body (T:=tab) (res:=[.tmp 4,.tmp 5]) zb [] Tryz.func9 rfl (by kernel_rfl) Tryz.ntmps9 rfl (by simp only [List.length_cons,List.length_nil];decide) (by simp only [lowL,AV.low,ldL];rfl) (za3 l pay).1 (za3 l pay).2 ?_;conv=>whnf
 refine za.ret (kS l o.w o.h1 o.h2 o.h3) ?_
 conv=>whnf
 repeat' first|(with_reducible apply XBr.not)|((with_reducible apply XBr.bne) <;> (intro h;first|(exfalso;omega)|(conv=>whnf)))|(refine za.ret (in_c _ _ _) ?_;conv=>whnf)|((with_reducible apply XBr.mk') <;> (intro h;conv=>whnf))|fail
 ·have he : zN l pay = zi l:=by unfold zN;rw [if_pos (by assumption)]
  unfold kD;rw [if_neg (by rw [he];assumption),he];exact jK.err rfl
 ·rename_i h0
  have ok:=(zB l).1 (by omega)
  have pk:=yA ok
  have hpart:=fK l ok
  have hbd:=h
  rw [zL] at hbd
  have hres : kD l pay = if 0 < pay /\ zM (zG l) = 0 then (.tup [.sl true [],.int .i64 6],[]) else (.tup [.gr 0 6,.int .i64 0],[.grow 3 false (ints (zJ (zG l) pay.toNat))]):=by
   have he : zN l pay = if 0 < pay /\ zM (zG l) = 0 then 6 else 0:=by
    unfold zN
    rw [if_neg (show ¬ zi l ≠ 0 by omega),if_neg (by rw [h];simp)]
   unfold kD;rw [he]
   by_cases hc : 0 < pay /\ zM (zG l) = 0
   ·rw [if_pos hc,if_pos hc];rfl
   ·rw [if_neg hc,if_neg hc];rfl
  rw [hres]
  clear hres
  generalize zG l = parts at pk hpart
  apply Walk.drawX zb zk [] [2] (hsV _ [id,fun H=>H ++ [.grow 3 false (ints (List.replicate 6 0))]]) [_,_,_,_,_] (by kernel_rfl) rfl
  ·skip
   repeat' first|((with_reducible refine zj.mk ?_ ?_);(first | omega | rfl | decide|exact ⟨rfl,by decide,rfl⟩|exact zz _|exact zp _|exact zq _|(unfold Room;constructor <;> ((try simp) <;> omega))|exact ⟨rfl,by simp only [List.length_map],by unfold Room;constructor <;> ((try simp) <;> omega)⟩|exact ⟨by omega,by omega,by unfold Room;constructor <;> ((try simp) <;> omega)⟩);conv=>whnf)|(with_reducible apply XAnd.mk)|((first|(with_reducible apply Chk.go)|(with_reducible apply ChkA.go));conv=>whnf)|(exact zg.mk rfl rfl)|(with_reducible exact trivial)|(refine za.ret hpart ?_;conv=>whnf)|fail
  ·skip
   repeat' first|(with_reducible apply XAnd.mk)|((first|(with_reducible apply Chk.go)|(with_reducible apply ChkF.go)|(with_reducible apply ChkB.go));conv=>whnf)|(exact zg.mk rfl rfl)|(with_reducible exact trivial)|(refine za.ret hpart ?_;conv=>whnf)|fail
  ·conv=>whnf
   repeat' first|((first|(with_reducible apply XBr.tt)|(with_reducible apply XBr.ff));conv=>whnf)|((with_reducible apply XBr.dec) <;> (intro h;first|(exfalso;omega)|((try simp only [List.length_map] at h);first|(exfalso;omega)|(conv=>whnf))))|((with_reducible apply XBr.beq) <;> (intro h;first|(exfalso;omega)|(conv=>whnf)))|(refine za.ret (zeK _ parts (by have:=pk.1;omega)) ?_;conv=>whnf)|fail
   ·rename_i hg
    rw [if_pos ⟨by assumption,h⟩];exact jK.err rfl
   ·rw [if_neg (fun hh=>h hh.2)]
    have pkl:=pk.1
    obtain ⟨pn,rfl⟩:=Int.eq_ofNat_of_zero_le hbd.1
    rw [Int.toNat_natCast]
    refine Walk.loopG zb [] (fun k : Nat=>k <= pn) (fun k=>[(7,.sl false (ints parts)),(8,.gr 0 6),(33,natA pn),(34,natA k)])
     (fun k=>[.grow 3 false (ints (zJ parts k))]) (fun k=>pn - k) 0 (by omega) rfl ⟨rfl,rfl,rfl,rfl,trivial⟩ ?_ ?_ ?_
    ·intro k _
     constructor
     ·intro x hx;simp at hx;subst hx;exact lowI _
     ·intro p hp;simp at hp;rcases hp with rfl | rfl | rfl | rfl <;> first|exact lowI _ | rfl
    ·intro k _;simp
    intro k hk
    have ok:=kb pk k
    have hnx : zJ parts (k + 1) = jx parts (zJ parts k):=rfl
    have hfin : k = pn -> zJ parts pn = zJ parts k:=fun h=>by rw [h]
    generalize zJ parts k = out at ok hnx hfin
    have okl:=ok.1
    conv=>whnf
    repeat' first|((with_reducible apply XBr.dec) <;> (intro h;first|(exfalso;omega)|((try simp only [List.length_map] at h);first|(exfalso;omega)|(conv=>whnf))))|fail
    ·skip
     refine Walk.loopG zb [] (fun i : Nat=>i <= 6) (fun i=>[(7,.sl false (ints parts)),(8,.gr 0 6),(10,.ptr 1 0),(11,.ptr 2 0),(33,natA pn),(34,natA k),(38,.sl false (ints parts)),(39,.int .i64 6),(9,natA (pqI parts out i).1),(40,natA i)])
      (fun i=>[.grow 3 false (ints out),.cells [.int .i64 0,.int .i64 1],.cells [.int .i64 (pqI parts out i).2.1,.int .i64 (pqI parts out i).2.2]]) (fun i=>6 - i) 0 (by omega) rfl
      ⟨rfl,rfl,rfl,rfl,rfl,rfl,rfl,congrArg (fun n : Nat=>some (AV.int .i64 n)) (by rw [List.length_map,pkl]),rfl,rfl,trivial⟩ ?_ ?_ ?_
     ·intro i _
      constructor
      ·intro x hx;simp at hx;rcases hx with rfl | rfl | rfl <;> first|exact lowI _ | rfl
      ·intro p hp;simp at hp;rcases hp with rfl | rfl | rfl | rfl | rfl | rfl | rfl | rfl | rfl | rfl <;> first|exact lowI _ | rfl
     ·intro i _;simp
     intro i hi
     have sk:=pqI_ok pk ok i hi
     have hpn:=wc parts out i
     have hwho : i = 6 -> whoR parts out = (pqI parts out i).1:=fun h=>by rw [h];rfl
     generalize pqI parts out i = st at sk hpn hwho
     obtain ⟨who,b1,b2⟩:=st
     dsimp only at sk hwho ⊢
     have hb : ([b1,b2] == [0,1]) = true ↔ (b1,b2) = ((0 : Int),(1 : Int)):=by simp
     have pv:=pk.2 i
     have ov:=ok.2 i
     have pv2 : 0 <= parts.getD i default /\ parts.getD i default <= 100 * 9:=pv
     have ov2 : 0 <= out.getD (i : Int).toNat default /\ out.getD (i : Int).toNat default <= k:=ov
     have ow2 : 0 <= out.getD (who : Int).toNat default /\ out.getD (who : Int).toNat default <= k:=ok.2 who
     have hyes : ((b1,b2) = ((0 : Int),(1 : Int)) /\ 0 < parts.getD i default) \/ ky (parts.getD i default,2 * out.getD (i : Int).toNat default + 1) (b1,b2) = true -> pqI parts out (i + 1) = (i,parts.getD i default,2 * out.getD (i : Int).toNat default + 1):=fun h=>by rw [hpn];unfold pq;exact if_pos h
     have hno : ¬ (((b1,b2) = ((0 : Int),(1 : Int)) /\ 0 < parts.getD i default) \/ ky (parts.getD i default,2 * out.getD (i : Int).toNat default + 1) (b1,b2) = true) -> pqI parts out (i + 1) = (who,b1,b2):=fun h=>by rw [hpn];unfold pq;exact if_neg h
     conv=>whnf
     repeat' first|((first|(with_reducible apply XBr.tt)|(with_reducible apply XBr.ff));conv=>whnf)|((with_reducible apply XBr.dec) <;> (intro h;first|(exfalso;omega)|((try simp only [List.length_map] at h);first|(exfalso;omega)|(conv=>whnf))))|((first|(with_reducible refine XInt.i64 (by omega) (by omega) ?_)|((with_reducible refine XIx.nat ?_ ?_ ?_);omega;(intro _;rfl))|(refine zj.mk ⟨by rw [List.length_map];exact okl,rfl,by omega,by omega⟩ ?_)|(refine XGet.map (by rw [okl]) (by omega) ?_)|(refine XEqA.mk ⟨[b1,b2],[0,1],rfl,rfl,rfl,rfl,?_⟩)|(refine za.ret (zcP (parts.getD i default,2 * out.getD (i : Int).toNat default + 1) (b1,b2) (by dsimp only;omega) (by dsimp only;omega) (by dsimp only;omega) (by dsimp only;omega)) ?_));conv=>whnf)|((with_reducible apply XBr.mk') <;> (intro h;conv=>whnf))|fail
     ·have hy:=hyes (.inl ⟨hb.1 (by assumption),h⟩)
      apply Walk.drawX zb zk [] [3] (hsV _ [id,fun H=>H.set 2 (.cells [.int .i64 (parts.getD i default),.int .i64 (2 * out.getD (i : Int).toNat default + 1)])]) [_,_,_,_] (by kernel_rfl) rfl
      ·skip
       repeat' first|(with_reducible apply XAnd.mk)|((first|(with_reducible apply Chk.go)|(with_reducible apply ChkA.go));conv=>whnf)|(exact zg.mk rfl rfl)|(with_reducible exact trivial)|fail
      ·skip
       repeat' first|(with_reducible apply XAnd.mk)|((first|(with_reducible apply ChkF.go)|(with_reducible apply ChkB.go));conv=>whnf)|(with_reducible exact trivial)|fail
      ·conv=>whnf
       repeat' first|((with_reducible refine XInt.i64 (by omega) (by omega) ?_);conv=>whnf)|fail
       refine zw.go (i + 1) [.cells [.int .i64 (parts.getD i default),.int .i64 (2 * out.getD (i : Int).toNat default + 1)]] (by omega) (by omega) ?_ ?_
       ·rw [hy];rfl
       ·rw [hy];exact ⟨rfl,rfl,rfl,rfl,rfl,rfl,rfl,rfl,rfl,rfl,trivial⟩
     ·have hy:=hyes (.inr h)
      apply Walk.drawX zb zk [] [3] (hsV _ [id,fun H=>H.set 2 (.cells [.int .i64 (parts.getD i default),.int .i64 (2 * out.getD (i : Int).toNat default + 1)])]) [_,_,_,_] (by kernel_rfl) rfl
      ·skip
       repeat' first|(with_reducible apply XAnd.mk)|((first|(with_reducible apply Chk.go)|(with_reducible apply ChkA.go));conv=>whnf)|(exact zg.mk rfl rfl)|(with_reducible exact trivial)|fail
      ·skip
       repeat' first|(with_reducible apply XAnd.mk)|((first|(with_reducible apply ChkF.go)|(with_reducible apply ChkB.go));conv=>whnf)|(with_reducible exact trivial)|fail
      ·conv=>whnf
       repeat' first|((with_reducible refine XInt.i64 (by omega) (by omega) ?_);conv=>whnf)|fail
       refine zw.go (i + 1) [.cells [.int .i64 (parts.getD i default),.int .i64 (2 * out.getD (i : Int).toNat default + 1)]] (by omega) (by omega) ?_ ?_
       ·rw [hy];rfl
       ·rw [hy];exact ⟨rfl,rfl,rfl,rfl,rfl,rfl,rfl,rfl,rfl,rfl,trivial⟩
     ·have hn:=hno (fun hh=>by
       rcases hh with ⟨_,e⟩ | e
       ·exact (by assumption : ¬ 0 < parts.getD i default) e
       ·rw [h] at e;cases e)
      refine zw.go (i + 1) [.cells [.int .i64 (parts.getD i default),.int .i64 (2 * out.getD (i : Int).toNat default + 1)]] (by omega) (by omega) ?_ ?_
      ·rw [hn];rfl
      ·rw [hn];exact ⟨rfl,rfl,rfl,rfl,rfl,rfl,rfl,rfl,rfl,rfl,trivial⟩
     ·have hy:=hyes (.inr h)
      apply Walk.drawX zb zk [] [3] (hsV _ [id,fun H=>H.set 2 (.cells [.int .i64 (parts.getD i default),.int .i64 (2 * out.getD (i : Int).toNat default + 1)])]) [_,_,_,_] (by kernel_rfl) rfl
      ·skip
       repeat' first|(with_reducible apply XAnd.mk)|((first|(with_reducible apply Chk.go)|(with_reducible apply ChkA.go));conv=>whnf)|(exact zg.mk rfl rfl)|(with_reducible exact trivial)|fail
      ·skip
       repeat' first|(with_reducible apply XAnd.mk)|((first|(with_reducible apply ChkF.go)|(with_reducible apply ChkB.go));conv=>whnf)|(with_reducible exact trivial)|fail
      ·conv=>whnf
       repeat' first|((with_reducible refine XInt.i64 (by omega) (by omega) ?_);conv=>whnf)|fail
       refine zw.go (i + 1) [.cells [.int .i64 (parts.getD i default),.int .i64 (2 * out.getD (i : Int).toNat default + 1)]] (by omega) (by omega) ?_ ?_
       ·rw [hy];rfl
       ·rw [hy];exact ⟨rfl,rfl,rfl,rfl,rfl,rfl,rfl,rfl,rfl,rfl,trivial⟩
     ·have hn:=hno (fun hh=>by
       rcases hh with ⟨e,_⟩ | e
       ·have:=hb.2 e;simp_all
       ·rw [h] at e;cases e)
      refine zw.go (i + 1) [.cells [.int .i64 (parts.getD i default),.int .i64 (2 * out.getD (i : Int).toNat default + 1)]] (by omega) (by omega) ?_ ?_
      ·rw [hn];rfl
      ·rw [hn];exact ⟨rfl,rfl,rfl,rfl,rfl,rfl,rfl,rfl,rfl,rfl,trivial⟩
     ·have hie : i = 6:=by omega
      refine XPut.map (out.getD (who : Int).toNat default + 1) rfl (by rw [okl]) (by omega) ?_
      conv=>whnf
      repeat' first|((with_reducible refine XInt.i64 (by omega) (by omega) ?_);conv=>whnf)|fail
      refine zw.go (k + 1) [.cells [.int .i64 0,.int .i64 1],.cells [.int .i64 b1,.int .i64 b2]] (by omega) (by omega) ?_ ⟨rfl,rfl,rfl,rfl,trivial⟩
      rw [hnx];unfold jx;rw [hwho hie];rfl
    ·skip
     rw [hfin (by omega)]
     exact jK.mk' [0] rfl (by decide) ⟨congrArg some (wF _ _ _ _).symm,trivial⟩ rfl
   ·rw [if_neg (fun hh=>h hh.1)]
    have pkl:=pk.1
    obtain ⟨pn,rfl⟩:=Int.eq_ofNat_of_zero_le hbd.1
    rw [Int.toNat_natCast]
    refine Walk.loopG zb [] (fun k : Nat=>k <= pn) (fun k=>[(7,.sl false (ints parts)),(8,.gr 0 6),(33,natA pn),(34,natA k)])
     (fun k=>[.grow 3 false (ints (zJ parts k))]) (fun k=>pn - k) 0 (by omega) rfl ⟨rfl,rfl,rfl,rfl,trivial⟩ ?_ ?_ ?_
    ·intro k _
     constructor
     ·intro x hx;simp at hx;subst hx;exact lowI _
     ·intro p hp;simp at hp;rcases hp with rfl | rfl | rfl | rfl <;> first|exact lowI _ | rfl
    ·intro k _;simp
    intro k hk
    have ok:=kb pk k
    have hnx : zJ parts (k + 1) = jx parts (zJ parts k):=rfl
    have hfin : k = pn -> zJ parts pn = zJ parts k:=fun h=>by rw [h]
    generalize zJ parts k = out at ok hnx hfin
    have okl:=ok.1
    conv=>whnf
    repeat' first|((with_reducible apply XBr.dec) <;> (intro h;first|(exfalso;omega)|((try simp only [List.length_map] at h);first|(exfalso;omega)|(conv=>whnf))))|fail
    rw [hfin (by omega)]
    exact jK.mk' [0] rfl (by decide) ⟨congrArg some (wF _ _ _ _).symm,trivial⟩ rfl
 ·have he : zN l pay = 3:=by unfold zN;rw [if_neg (by omega),if_pos h]
  unfold kD;rw [if_neg (by omega),he];exact jK.err rfl
theorem zcE (l : Ld) (pay : Int) (o : LdW l) : Comp Tryz.prog 9 [ldA l,.int .i64 pay] (jL l pay):=by
 have x:=share_g l pay o
 unfold kD at x;unfold jL
 split at x
 ·rename_i h
  have pk:=(kb (yA ((zB l).1 (by unfold zN at h;split at h <;> omega))) pay.toNat).1
  rw [if_pos h]
  exact x.comp (Froz.tup (.cons (Froz.grow rfl (by rw [List.length_map];exact pk) (lowI _)) (.cons (Froz.low rfl) .nil)))
 ·rename_i h
  rw [if_neg h]
  exact x.comp (Froz.low rfl)
end GA
end
section
namespace GA
open Go Go.RowKit Go.Proofs
def five : Ld:=⟨50,10,false,[⟨30,0⟩,⟨20,1⟩,⟨25,0⟩,⟨20,2⟩,⟨10,1⟩],true,[],true,[]⟩
def f9 : Ld:={ five with nla:=false,apart:=[(0,2)],nlw:=false,wth:=[(1,3)] }
def vx : Pr:=⟨50,false,[27,18,23,18,9]⟩
theorem zc3 : zi five = 0 /\ zi f9 = 0:=by decide +kernel
theorem five_many : ye (zf five) = 2:=by decide +kernel
theorem five_out : (yq (zf five) 2 2).out = [0,0,1,1,1]:=by decide +kernel
theorem zeD : ye (zf f9) = 3:=by decide +kernel
theorem fiveP_out : (yq (zf f9) 3 3).out = [0,1,2,1,0]:=by decide +kernel
theorem zcZ : zD five vx = 0 /\ yR (zf five) vx = true /\ (vx.ps.sum + vx.unit - 1) / vx.unit = 2:=by decide +kernel
theorem zaR : zN five 10 = 0 /\ zJ (zG five) 10 = [5,3,2,0,0,0]:=by decide +kernel
theorem fj : z7 [12,20,19,25] 20 = 0 /\ yV [12,20,19,25] 20 = [20,25]:=by decide +kernel
theorem gi : LdW five:=⟨fun _=>rfl,by decide,by decide,by decide⟩
theorem fG : LdW f9:=⟨(fun h=>by cases h),by decide,by decide,by decide⟩
theorem zas : Comp Tryz.prog 4 [] (ldA five):=by
 refine Comp.body' (T:=tab) (res:=[.cell 0 27]) zb [] Tryz.func4 rfl (by kernel_rfl) Tryz.ntmps4 rfl (by simp only [List.length_cons,List.length_nil];decide) (by rfl) ?_;conv=>whnf
 repeat' first|((with_reducible refine zj.mk ?_ ?_);(first | omega | rfl | decide|exact ⟨rfl,by decide,rfl⟩|exact zz _|exact zp _|exact zq _|(unfold Room;constructor <;> ((try simp) <;> omega))|exact ⟨rfl,by simp only [List.length_map],by unfold Room;constructor <;> ((try simp) <;> omega)⟩|exact ⟨by omega,by omega,by unfold Room;constructor <;> ((try simp) <;> omega)⟩);conv=>whnf)|fail
 exact ⟨Froz.low rfl⟩
theorem zeg : yQ five = .tup [.sl false (ints [0,0,1,1,1]),.int .i64 2,.int .i64 0]:=by
 unfold yQ;rw [if_pos zc3.1];unfold kT;rw [five_many,if_neg (by decide),five_out];rfl
theorem zcN : yQ f9 = .tup [.sl false (ints [0,1,2,1,0]),.int .i64 3,.int .i64 0]:=by
 unfold yQ;rw [if_pos zc3.2];unfold kT;rw [zeD,if_neg (by decide),fiveP_out];rfl
theorem zdG : vH five vx = .tup [.int .i64 2,.int .i64 0]:=by
 unfold vH;rw [if_pos zc3.1,if_pos zcZ.1,if_pos zcZ.2.1,zcZ.2.2]
theorem zd7 : jL five 10 = .tup [.sl false (ints [5,3,2,0,0,0]),.int .i64 0]:=by
 unfold jL;rw [if_pos zaR.1,show (10 : Int).toNat = 10 from rfl,zaR.2]
theorem zcV : jU [12,20,19,25] 20 = .tup [.sl false (ints [20,25]),slA (kf [12,20,19,25] 20),.int .i64 0]:=by
 unfold jU;rw [if_pos fj.1];unfold fQ;rw [fj.2];rfl
theorem cFive : Comp Tryz.prog 7 [ldA five] (.tup [.sl false (ints [0,0,1,1,1]),.int .i64 2,.int .i64 0]):=zeg ▸ vt five gi.w gi.h1 gi.h2 gi.h3
theorem cFiveP : Comp Tryz.prog 7 [ldA f9] (.tup [.sl false (ints [0,1,2,1,0]),.int .i64 3,.int .i64 0]):=zcN ▸ vt f9 fG.w fG.h1 fG.h2 fG.h3
theorem cRid : Comp Tryz.prog 20 [.sl false (ints [12,20,19,25]),.int .i64 20] (.tup [.sl false (ints [20,25]),slA (kf [12,20,19,25] 20),.int .i64 0]):=zcV ▸ zba false [12,20,19,25] 20 (by decide)
theorem cShare : Comp Tryz.prog 9 [ldA five,.int .i64 10] (.tup [.sl false (ints [5,3,2,0,0,0]),.int .i64 0]):=zd7 ▸ zcE five 10 gi
theorem cProves : Comp Tryz.prog 62 [ldA five,pcA vx] (.tup [.int .i64 2,.int .i64 0]):=zdG ▸ zei five vx gi (by decide)
theorem cEq (xs : List Int) (h : xs.length <= 100000) : Comp Tryz.prog 23 [.sl false (ints xs),.sl false (ints xs)] (.bool true):=by
 have:=v0 false false xs xs h
 rwa [show (xs == xs) = true from beq_self_eq_true xs] at this
theorem cEq1 : Comp Tryz.prog 23 [.sl false (ints [0,0,1,1,1]),.sl false [.int .i64 0,.int .i64 0,.int .i64 1,.int .i64 1,.int .i64 1]] (.bool true):=cEq [0,0,1,1,1] (by decide)
theorem cEq2 : Comp Tryz.prog 23 [.sl false (ints [20,25]),.sl false [.int .i64 20,.int .i64 25]] (.bool true):=cEq [20,25] (by decide)
theorem cEq3 : Comp Tryz.prog 23 [.sl false (ints [5,3,2,0,0,0]),.sl false [.int .i64 5,.int .i64 3,.int .i64 2,.int .i64 0,.int .i64 0,.int .i64 0]] (.bool true):=cEq [5,3,2,0,0,0] (by decide)
theorem cEq4 : Comp Tryz.prog 23 [.sl false (ints [0,1,2,1,0]),.sl false [.int .i64 0,.int .i64 1,.int .i64 2,.int .i64 1,.int .i64 0]] (.bool true):=cEq [0,1,2,1,0] (by decide)
theorem zx : Comp Tryz.prog 17 [] (.bool true):=by
 refine Comp.body' (T:=tab) (res:=[.tmp 0]) zb [] Tryz.func17 rfl (by kernel_rfl) Tryz.ntmps17 rfl (by simp only [List.length_cons,List.length_nil];decide) (by rfl) ?_;conv=>whnf
 refine za.ret zas ?_
 conv=>whnf
 refine za.ret cFive ?_
 conv=>whnf
 repeat' first|((with_reducible refine zj.mk ?_ ?_);(first | omega | rfl | decide|exact ⟨rfl,by decide,rfl⟩|exact zz _|exact zp _|exact zq _|(unfold Room;constructor <;> ((try simp) <;> omega))|exact ⟨rfl,by simp only [List.length_map],by unfold Room;constructor <;> ((try simp) <;> omega)⟩|exact ⟨by omega,by omega,by unfold Room;constructor <;> ((try simp) <;> omega)⟩);conv=>whnf)|fail
 refine za.ret cRid ?_
 conv=>whnf
 refine za.ret zas ?_
 conv=>whnf
 refine za.ret cShare ?_
 conv=>whnf
 refine za.ret zas ?_
 conv=>whnf
 repeat' first|((with_reducible refine zj.mk ?_ ?_);(first | omega | rfl | decide|exact ⟨rfl,by decide,rfl⟩|exact zz _|exact zp _|exact zq _|(unfold Room;constructor <;> ((try simp) <;> omega))|exact ⟨rfl,by simp only [List.length_map],by unfold Room;constructor <;> ((try simp) <;> omega)⟩|exact ⟨by omega,by omega,by unfold Room;constructor <;> ((try simp) <;> omega)⟩);conv=>whnf)|fail
 refine za.ret cFiveP ?_
 conv=>whnf
 refine za.ret zas ?_
 conv=>whnf
 repeat' first|((with_reducible refine zj.mk ?_ ?_);(first | omega | rfl | decide|exact ⟨rfl,by decide,rfl⟩|exact zz _|exact zp _|exact zq _|(unfold Room;constructor <;> ((try simp) <;> omega))|exact ⟨rfl,by simp only [List.length_map],by unfold Room;constructor <;> ((try simp) <;> omega)⟩|exact ⟨by omega,by omega,by unfold Room;constructor <;> ((try simp) <;> omega)⟩);conv=>whnf)|fail
 refine za.ret cProves ?_
 conv=>whnf
 refine Walk.norm zb [] [(3,.int .i64 0),(6,.int .i64 0),(8,.int .i64 0),(12,.int .i64 0),(14,.int .i64 0),(1,.sl false (ints [0,0,1,1,1])),(2,.int .i64 2),(4,.sl false (ints [20,25])),(7,.sl false (ints [5,3,2,0,0,0])),(10,.sl false (ints [0,1,2,1,0])),(11,.int .i64 3),(13,.int .i64 2)] ⟨rfl,rfl,rfl,rfl,rfl,rfl,rfl,rfl,rfl,rfl,rfl,rfl,trivial⟩ ?_
 conv=>whnf
 repeat' first|((with_reducible apply XBr.tt);conv=>whnf)|((with_reducible apply XBr.beq) <;> (intro h;first|(exfalso;omega)|(conv=>whnf)))|((with_reducible refine zj.mk ?_ ?_);(first | omega | rfl | decide|exact ⟨rfl,by decide,rfl⟩|exact zz _|exact zp _|exact zq _|(unfold Room;constructor <;> ((try simp) <;> omega))|exact ⟨rfl,by simp only [List.length_map],by unfold Room;constructor <;> ((try simp) <;> omega)⟩|exact ⟨by omega,by omega,by unfold Room;constructor <;> ((try simp) <;> omega)⟩);conv=>whnf)|fail
 refine za.ret cEq1 ?_
 conv=>whnf
 repeat' first|((with_reducible apply XBr.tt);conv=>whnf)|((with_reducible apply XBr.beq) <;> (intro h;first|(exfalso;omega)|(conv=>whnf)))|((with_reducible refine zj.mk ?_ ?_);(first | omega | rfl | decide|exact ⟨rfl,by decide,rfl⟩|exact zz _|exact zp _|exact zq _|(unfold Room;constructor <;> ((try simp) <;> omega))|exact ⟨rfl,by simp only [List.length_map],by unfold Room;constructor <;> ((try simp) <;> omega)⟩|exact ⟨by omega,by omega,by unfold Room;constructor <;> ((try simp) <;> omega)⟩);conv=>whnf)|fail
 refine za.ret cEq2 ?_
 conv=>whnf
 repeat' first|((with_reducible apply XBr.tt);conv=>whnf)|((with_reducible refine zj.mk ?_ ?_);(first | omega | rfl | decide|exact ⟨rfl,by decide,rfl⟩|exact zz _|exact zp _|exact zq _|(unfold Room;constructor <;> ((try simp) <;> omega))|exact ⟨rfl,by simp only [List.length_map],by unfold Room;constructor <;> ((try simp) <;> omega)⟩|exact ⟨by omega,by omega,by unfold Room;constructor <;> ((try simp) <;> omega)⟩);conv=>whnf)|fail
 refine za.ret cEq3 ?_
 conv=>whnf
 repeat' first|((with_reducible apply XBr.tt);conv=>whnf)|((with_reducible refine zj.mk ?_ ?_);(first | omega | rfl | decide|exact ⟨rfl,by decide,rfl⟩|exact zz _|exact zp _|exact zq _|(unfold Room;constructor <;> ((try simp) <;> omega))|exact ⟨rfl,by simp only [List.length_map],by unfold Room;constructor <;> ((try simp) <;> omega)⟩|exact ⟨by omega,by omega,by unfold Room;constructor <;> ((try simp) <;> omega)⟩);conv=>whnf)|fail
 refine za.ret cEq4 ?_
 conv=>whnf
 repeat' first|((with_reducible apply XBr.tt);conv=>whnf)|((with_reducible apply XBr.beq) <;> (intro h;first|(exfalso;omega)|(conv=>whnf)))|fail
 exact ⟨Froz.low rfl⟩
end GA
end
section
namespace GA
open Go Go.RowKit Go.Proofs
theorem ka (n lo hi : Int) : offB n lo hi = !inB n lo hi:=by
 unfold offB inB;rw [Bool.eq_iff_iff];simp <;> omega
theorem zdL (xs : List Int) (c : Int) : vn xs c = z7 xs c:=by
 unfold vn z7
 by_cases h : 100 < xs.length
 ·rw [if_pos h,if_pos h]
 ·rw [if_neg h,if_neg h]
  have e : xs.any (offB · 1 40) = !xs.all (inB · 1 40):=by
   simp only [ka,List.not_all_eq_any_not]
  rw [e,ka]
  cases xs.all (inB · 1 40) <;> cases inB c 1 40 <;> rfl
theorem zdQ (xs : List Int) (most e : Int) : ∃ i j : Int,kG xs most e = .tup [.int .i64 i,.int .i64 j]:=by
 unfold kG
 split
 ·exact ⟨_,_,rfl⟩
 ·split
  ·exact ⟨_,_,rfl⟩
  ·split <;> exact ⟨_,_,rfl⟩
theorem zej (nl : Bool) (xs : List Int) (g most : Int) : Comp Tryz.prog 6 [.sl nl (ints xs),.int .i64 g,.int .i64 most] (.bool true):=by
 by_cases hx : 130 < xs.length
 ·refine Comp.body (T:=tab) (res:=[.tmp 6]) zb [] Tryz.func6 rfl (by kernel_rfl) Tryz.ntmps6 rfl (by simp only [List.length_cons,List.length_nil];decide) (by simp only [lowL,AV.low,lowI];rfl) ?_;conv=>whnf
  repeat' first|((with_reducible apply XBr.dec) <;> (intro h;first|(exfalso;omega)|((try simp only [List.length_map] at h);first|(exfalso;omega)|(conv=>whnf))))|fail
  refine za.ret zx ?_
  conv=>whnf
  exact XOut.bool rfl
 ·have hl : xs.length <= 100000:=by omega
  have hs:=zdL xs g
  have hs1:=zdL xs 1
  obtain ⟨i,j,hg⟩:=zdQ xs most (z7 xs 1)
  have c1:=gauge_c false xs most hl
  have c2:=zeH nl xs most hl
  rw [hs1] at c2
  rw [hg] at c1 c2
  have c3:=sizes_c nl xs g
  rw [hs] at c3
  have c4:=zba false xs g hl
  unfold jU fQ at c4
  by_cases he : z7 xs g = 0
  ·rw [if_pos he] at c4
   rw [he] at c3
   have c5:=g8 nl xs g hl
   have hk:=v0 (yV xs g).isEmpty (yV xs g).isEmpty (yV xs g) (yV xs g) (by have:=zc7 xs g xs.length;rw [List.take_length] at this;omega)
   have ht:=v0 (kf xs g).isEmpty (kf xs g).isEmpty (kf xs g) (kf xs g) (by have:=zcr xs g xs.length;rw [List.take_length] at this;omega)
   have hd:=v0 false nl xs xs hl
   rw [beq_self_eq_true] at hk ht hd
   refine Comp.body (T:=tab) (res:=[.tmp 6]) zb [] Tryz.func6 rfl (by kernel_rfl) Tryz.ntmps6 rfl (by simp only [List.length_cons,List.length_nil];decide) (by simp only [lowL,AV.low,lowI];rfl) ?_;conv=>whnf
   repeat' first|((first|(with_reducible apply XBr.tt)|(with_reducible apply XBr.ff));conv=>whnf)|(with_reducible apply XBr.not)|((with_reducible apply XBr.dec) <;> (intro h;first|(exfalso;omega)|((try simp only [List.length_map] at h);first|(exfalso;omega)|(conv=>whnf))))|((with_reducible apply XBr.beq) <;> (intro h;first|(exfalso;omega)|(conv=>whnf)))|((with_reducible apply XBr.bne) <;> (intro h;first|(exfalso;omega)|(conv=>whnf)))|(refine za.ret (vK nl xs hl) ?_;conv=>whnf)|(refine za.ret c4 ?_;conv=>whnf)|(refine za.ret c3 ?_;conv=>whnf)|(refine za.ret c5 ?_;conv=>whnf)|(refine za.ret hk ?_;conv=>whnf)|(refine za.ret ht ?_;conv=>whnf)|(refine za.ret c1 ?_;conv=>whnf)|(refine za.ret c2 ?_;conv=>whnf)|(refine za.ret hd ?_;conv=>whnf)|(refine za.ret zx ?_;conv=>whnf)|fail
   exact XOut.bool rfl
  ·rw [if_neg he] at c4
   have hn:=v0 true true [] [] (by decide)
   have hd:=v0 false nl xs xs hl
   rw [beq_self_eq_true] at hn hd
   refine Comp.body (T:=tab) (res:=[.tmp 6]) zb [] Tryz.func6 rfl (by kernel_rfl) Tryz.ntmps6 rfl (by simp only [List.length_cons,List.length_nil];decide) (by simp only [lowL,AV.low,lowI];rfl) ?_;conv=>whnf
   repeat' first|((first|(with_reducible apply XBr.tt)|(with_reducible apply XBr.ff));conv=>whnf)|(with_reducible apply XBr.not)|((with_reducible apply XBr.dec) <;> (intro h;first|(exfalso;omega)|((try simp only [List.length_map] at h);first|(exfalso;omega)|(conv=>whnf))))|((with_reducible apply XBr.beq) <;> (intro h;first|(exfalso;omega)|(conv=>whnf)))|((with_reducible apply XBr.bne) <;> (intro h;first|(exfalso;omega)|(conv=>whnf)))|(refine za.ret (vK nl xs hl) ?_;conv=>whnf)|(refine za.ret c4 ?_;conv=>whnf)|(refine za.ret c3 ?_;conv=>whnf)|(refine za.ret hn ?_;conv=>whnf)|(refine za.ret c1 ?_;conv=>whnf)|(refine za.ret c2 ?_;conv=>whnf)|(refine za.ret hd ?_;conv=>whnf)|(refine za.ret zx ?_;conv=>whnf)|fail
   exact XOut.bool rfl
end GA
end
section
namespace GA
open Go Go.RowKit Go.Proofs
structure Hp where
 nl : Bool
 bs : List Int
 nx : Nat
 rd : Int
 deriving Inhabited
end GA
end
section
namespace GA
open Go Go.RowKit Go.Proofs
def zI (l : Ld) (xs : List Int) : Int:=if zi l ≠ 0 then zi l else if xs.length ≠ 6 then 2 else if (xs.all fun n=>inB n 0 500) = false then 3 else 0
theorem shared1_c (x : Int) : Comp Tryz.prog 89 [.int .i64 x] (.bool (inB x 0 500)):=by
 refine Comp.body (T:=tab) (res:=[.tmp 2]) zb [] Tryz.func89 rfl (by kernel_rfl) Tryz.ntmps89 rfl (by simp only [List.length_cons,List.length_nil];decide) (by rfl) ?_;conv=>whnf
 refine za.ret (in_c _ _ _) ?_
 conv=>whnf
 exact XOut.bool rfl
theorem za0 (l : Ld) (nl : Bool) (xs : List Int) (o : LdW l) (hx : xs.length <= 100000) : Comp Tryz.prog 36 [ldA l,.sl nl (ints xs)] (.int .i64 (zI l xs)):=by
 refine Comp.body (T:=tab) (res:=[.tmp 4]) zb [] Tryz.func36 rfl (by kernel_rfl) Tryz.ntmps36 rfl (by simp only [List.length_cons,List.length_nil];decide) (by simp only [lowL,AV.low,ldL,lowI];rfl) ?_;conv=>whnf
 refine za.ret (kS l o.w o.h1 o.h2 o.h3) ?_
 conv=>whnf
 repeat' first|(with_reducible apply XBr.not)|((with_reducible apply XBr.bne) <;> (intro h;first|(exfalso;omega)|(conv=>whnf)))|(refine za.ret (wg nl xs 89 [] (fun n=>inB n 0 500) rfl hx fun x _=>shared1_c x) ?_;conv=>whnf)|((with_reducible apply XBr.mk') <;> (intro h;conv=>whnf))|fail
 ·refine XOut.int ?_
  unfold zI;rw [if_pos (by assumption)]
 ·refine XOut.int ?_
  simp only [List.length_map] at *
  unfold zI;rw [if_neg (by omega),if_pos (by omega)]
 ·refine XOut.int ?_
  simp only [List.length_map] at *
  unfold zI;rw [if_neg (by omega),if_neg (by omega),if_neg (by simp [*])]
 ·refine XOut.int ?_
  simp only [List.length_map] at *
  unfold zI;rw [if_neg (by omega),if_neg (by omega),if_pos (by simp [*])]
def kC (s a : List Int) : Nat -> List Int
 | 0=>s
 | k + 1=>(kC s a k).set k ((kC s a k).getD k 0 - a.getD k 0)
theorem vA (s a : List Int) : ∀ k,(kC s a k).length = s.length
 | 0=>rfl
 | k + 1=>by rw [kC,List.length_set,vA s a k]
theorem gL (s a : List Int) (i : Nat) : ∀ k,(kC s a k).getD i 0 = if i < k /\ i < s.length then s.getD i 0 - a.getD i 0 else s.getD i 0
 | 0=>by simp [kC]
 | k + 1=>by
   have ih:=gL s a i k
   have hl:=vA s a k
   rw [kC,List.getD_eq_getElem?_getD,List.getElem?_set]
   by_cases hik : k = i
   ·subst hik
    rw [if_pos rfl,hl]
    by_cases hk : k < s.length
    ·rw [if_pos hk,if_pos ⟨by omega,hk⟩,Option.getD_some,ih,if_neg (by omega)]
    ·rw [if_neg hk,if_neg (fun h=>hk h.2),Option.getD_none,List.getD_eq_getElem?_getD,List.getElem?_eq_none (by omega)];rfl
   ·rw [if_neg hik,<- List.getD_eq_getElem?_getD,ih]
    by_cases h1 : i < k /\ i < s.length
    ·rw [if_pos h1,if_pos ⟨by omega,h1.2⟩]
    ·rw [if_neg h1,if_neg (fun h=>h1 ⟨by omega,h.2⟩)]
def qJ (l : Ld) (a : List Int) (pay : Int) : Int:=if zI l a ≠ 0 then zI l a else zN l pay
def owedI (l : Ld) (a : List Int) (pay : Int) : List Int:=kC (zJ (zG l) pay.toNat) a 6
def wh (l : Ld) (a : List Int) (pay : Int) : AV × List Blk:=if qJ l a pay = 0 then (.tup [.gr 0 6,.int .i64 0],[.grow 3 false (ints (owedI l a pay))]) else (.tup [.sl true [],.int .i64 (qJ l a pay)],[])
theorem zbG (l : Ld) (a : List Int) (pay : Int) : (wh l a pay).1.low (wh l a pay).2.length = true /\ ∀ x ∈ (wh l a pay).2,x.low (wh l a pay).2.length = true:=by
 unfold wh;split
 ·exact ⟨rfl,fun x hx=>by simp only [List.mem_cons,List.not_mem_nil,or_false] at hx;subst hx;exact lowI _⟩
 ·exact ⟨rfl,fun x hx=>by simp at hx⟩
theorem all500 {xs : List Int} (h : ¬ (xs.all fun n=>inB n 0 500) = false) (i : Nat) : 0 <= xs.getD i 0 /\ xs.getD i 0 <= 500:=by
 have h' : (xs.all fun n=>inB n 0 500) = true:=by simpa using h
 rw [List.all_eq_true] at h'
 rw [List.getD_eq_getElem?_getD]
 cases e : xs[i]? with
 | none=>simp
 | some x=>have:=zL.1 (h' x (List.mem_of_getElem? e));simpa using this
theorem owed_g (l : Ld) (nl : Bool) (a : List Int) (pay : Int) (o : LdW l) (hx : a.length <= 100000) : kW Tryz.prog 67 [ldA l,.sl nl (ints a),.int .i64 pay] (wh l a pay).1 (wh l a pay).2:=by
 refine kW.body (T:=tab) (res:=[.tmp 6,.tmp 7]) zb [] Tryz.func67 rfl (by kernel_rfl) Tryz.ntmps67 rfl (by simp only [List.length_cons,List.length_nil];decide) (by simp only [lowL,AV.low,ldL,lowI];rfl) (zbG l a pay).1 (zbG l a pay).2 ?_;conv=>whnf
 refine za.ret (za0 l nl a o hx) ?_
 conv=>whnf
 repeat' first|((with_reducible apply XBr.bne) <;> (intro h;first|(exfalso;omega)|(conv=>whnf)))|fail
 ·have he : qJ l a pay = zI l a:=by unfold qJ;rw [if_pos (by assumption)]
  unfold wh;rw [if_neg (by rw [he];assumption),he];exact jK.err rfl
 ·have h0:=h
  clear h
  have he : qJ l a pay = zN l pay:=by unfold qJ;rw [if_neg (by omega)]
  have x:=share_g l pay o
  unfold wh;rw [he]
  unfold kD at x
  by_cases h : zN l pay = 0
  ·rw [if_pos h] at x ⊢
   have pk:=kb (yA ((zB l).1 (by unfold zN at h;split at h <;> omega))) pay.toNat
   have ha : a.length = 6 /\ ¬ (a.all fun n=>inB n 0 500) = false:=by
    unfold zI at h0
    split at h0
    ·omega
    ·split at h0
     ·omega
     ·split at h0
      ·omega
      ·exact ⟨by omega,by assumption⟩
   have ha5:=all500 ha.2
   unfold owedI
   generalize zJ (zG l) pay.toNat = s at x pk
   refine za.give x ?_
   rw [List.map_cons,wF,List.map_nil]
   conv=>whnf
   have sl:=pk.1
   have hsl : (s.length : Int) = 6:=by omega
   repeat' first|((refine zj.mk (by rw [List.length_map];exact sl) ?_);conv=>whnf)|fail
   refine Walk.loop zb [] (fun k : Nat=>k <= 6) (fun k=>[(1,.sl nl (ints a)),(6,.sl true []),(7,.int .i64 0),(9,.gr 0 6),(10,.int .i64 0),(25,.int .i64 6),(26,natA k)])
    (fun k=>[.grow 3 false (ints (kC s a k))]) (fun k=>6 - k) 0 (by omega) rfl ⟨rfl,rfl,rfl,rfl,rfl,rfl,rfl,trivial⟩ ?_
   intro k hk
   have gl:=vA s a k
   have gg:=gL s a k k
   rw [if_neg (by omega)] at gg
   have pv:=pk.2 k
   have av:=ha5 k
   have hnx : kC s a (k + 1) = (kC s a k).set k ((kC s a k).getD k 0 - a.getD k 0):=rfl
   have hfin : k = 6 -> kC s a 6 = kC s a k:=fun h=>by rw [h]
   generalize kC s a k = out at gl gg hnx hfin
   conv=>whnf
   repeat' first|((with_reducible apply XBr.dec) <;> (intro h;first|(exfalso;omega)|((try simp only [List.length_map] at h);first|(exfalso;omega)|(conv=>whnf))))|fail
   ·have gg2 : out.getD (k : Int).toNat default = s.getD k 0:=gg
    have gg3 : out.getD k default = s.getD k 0:=gg
    have av2 : 0 <= a.getD k default /\ a.getD k default <= 500:=av
    have av3 : 0 <= a.getD (k : Int).toNat default /\ a.getD (k : Int).toNat default <= 500:=av
    have pay5 : (pay.toNat : Int) <= 500:=by
     have hin : inB pay 0 500 = true:=by
      have hs:=(by assumption : zN l pay = 0)
      unfold zN at hs
      split at hs
      ·omega
      ·split at hs
       ·omega
       ·simpa using (by assumption : ¬ inB pay 0 500 = false)
     have:=zL.1 hin;omega
    apply Walk.drawX zb zk [] [10] (hsV _ [id,fun H=>H.set 0 (.grow 3 false (ints (out.set k (out.getD k 0 - a.getD k 0))))]) [_,_,_,_,_,_,_,_,_,_,_] (by kernel_rfl) rfl
    ·skip
     repeat' first|((first|(with_reducible refine XInt.i64 (by omega) (by omega) ?_)|((with_reducible refine XIx.nat ?_ ?_ ?_);omega;(intro _;rfl)));conv=>whnf)|(with_reducible apply XAnd.mk)|((first|(with_reducible apply Chk.go)|(with_reducible apply ChkA.go));conv=>whnf)|(exact zg.mk rfl rfl)|(with_reducible exact trivial)|((first|(refine zj.mk ⟨by rw [List.length_map];omega,rfl,by omega,by omega⟩ ?_)|(refine XGet.map (by omega) (by omega) ?_)|(refine XPut.map (out.getD k 0 - a.getD k 0) rfl (by omega) (by omega) ?_));conv=>whnf)|fail
    ·skip
     repeat' first|(with_reducible apply XAnd.mk)|((first|(with_reducible apply ChkF.go)|(with_reducible apply ChkB.go));conv=>whnf)|(with_reducible exact trivial)|fail
    ·conv=>whnf
     repeat' first|((with_reducible refine XInt.i64 (by omega) (by omega) ?_);conv=>whnf)|fail
     refine zh.go (k + 1) (by omega) (by omega) ?_ ⟨rfl,rfl,rfl,rfl,rfl,rfl,rfl,trivial⟩
     rw [hnx];rfl
   ·rw [hfin (by omega)]
    exact jK.mk' [0] rfl (by decide) ⟨congrArg some (wF _ _ _ _).symm,trivial⟩ rfl
  ·rw [if_neg h] at x ⊢
   refine za.give x ?_
   conv=>whnf
   skip
   refine Walk.loop zb [] (fun _ : Nat=>True) (fun _=>[(6,.sl true []),(7,.int .i64 0),(9,.sl true []),(10,.int .i64 (zN l pay)),(25,.int .i64 0),(26,.int .i64 0)])
    (fun _=>[]) (fun _=>0) 0 trivial rfl ⟨rfl,rfl,rfl,rfl,rfl,rfl,trivial⟩ ?_
   intro _ _
   conv=>whnf
   repeat' first|((with_reducible apply XBr.dec) <;> (intro h;first|(exfalso;omega)|((try simp only [List.length_map] at h);first|(exfalso;omega)|(conv=>whnf))))|fail
   exact jK.err rfl
end GA
end
section
namespace GA
open Go Go.RowKit Go.Proofs
theorem ya {α : Type} (l : List α) (x : α) : (l ++ [x]).isEmpty = (l.isEmpty && false):=by cases l <;> rfl
end GA
end
section
namespace GA
open Go Go.RowKit Go.Proofs
theorem fq : ∀ (xs : List Int) (n : Int),n <= xs.foldl (fun n m=>max n m) n /\ ∀ x ∈ xs,x <= xs.foldl (fun n m=>max n m) n
 | [],n=>by simp
 | y :: xs,n=>by
   obtain ⟨h1,h2⟩:=fq xs (max n y)
   rw [List.foldl_cons]
   refine ⟨by omega,fun x hx=>?_⟩
   rcases List.mem_cons.1 hx with rfl | hx
   ·omega
   ·exact h2 x hx
theorem owed_get (s a : List Int) (hs : s.length = 6) (i : Nat) (hi : i < 6) : (kC s a 6).getD i 0 = s.getD i 0 - a.getD i 0:=by
 rw [gL,if_pos ⟨hi,by omega⟩]
end GA
end
section
namespace GA
open Go Go.RowKit Go.Proofs
def hp0 (nl : Bool) (bs : List Int) : Hp:=⟨nl,bs,0,0⟩
end GA
end
section
namespace GA
open Go Go.RowKit Go.ChangeShapes Go.WideShapes Go.ChangeAt Go.Proofs Go.Proofs.YtnjobcijpmnloaaGreat
section
variable {P : Program} {w : World} {r : Reach} {base : Nat} {t : TypeId} {v : Value}
end
theorem ownK : ownKnob Tryz.prog.godebug = none:=by kernel_rfl
end GA
end
section
namespace GA
open Go Go.RowKit Go.Proofs
theorem yY {a b : Nat} (h : ∀ i,a.testBit i = b.testBit i) : a = b:=Nat.eq_of_testBit_eq h
theorem Sub.refl (a : Nat) : Sub a a:=fun _ h=>h
theorem Sub.trans {a b c : Nat} (h : Sub a b) (k : Sub b c) : Sub a c:=fun i x=>k i (h i x)
theorem fU {a m : Nat} (h : Sub a m) : Sub (a / 2) (m / 2):=fun i x=>by
 have:=h (i + 1) (by rw [Nat.testBit_succ];exact x)
 rwa [Nat.testBit_succ] at this
theorem sub_odd {a m : Nat} (h : Sub a m) : a % 2 <= m % 2:=by
 have:=h 0
 simp only [Nat.testBit_zero,decide_eq_true_eq] at this
 omega
theorem and_half (a b : Nat) : (a &&& b) = 2 * ((a / 2) &&& (b / 2)) + ((a % 2) * (b % 2)):=by
 have h1 : (a &&& b) / 2 = (a / 2) &&& (b / 2):=Nat.and_div_two
 have h2 : (a &&& b) % 2 = (a % 2) * (b % 2):=by
  have e : (a &&& b).testBit 0 = (a.testBit 0 && b.testBit 0):=Nat.testBit_and ..
  simp only [Nat.testBit_zero] at e
  rcases Nat.mod_two_eq_zero_or_one a with ha | ha <;> rcases Nat.mod_two_eq_zero_or_one b with hb | hb <;> rcases Nat.mod_two_eq_zero_or_one (a &&& b) with hc | hc <;> simp [ha,hb,hc] at e ⊢
 omega
theorem sub_and {a m : Nat} (h : Sub a m) : a &&& m = a:=yY fun i=>by
 rw [Nat.testBit_and];cases e : a.testBit i
 ·rfl
 ·rw [h i e];rfl
theorem sub_pred : ∀ (rest r m : Nat),Sub rest m -> Sub r m -> r < rest -> r <= (rest - 1) &&& m:=by
 intro rest
 induction rest using Nat.strongRecOn with
 | ind rest ih =>
   intro r m h1 h2 h3
   rw [and_half]
   have o2:=sub_odd h2
   rcases Nat.mod_two_eq_zero_or_one rest with hx | hx
   ·have e1 : (rest - 1) / 2 = rest / 2 - 1:=by omega
    have e2 : (rest - 1) % 2 = 1:=by omega
    have:=ih (rest / 2) (by omega) (r / 2) (m / 2) (fU h1) (fU h2) (by omega)
    rw [e1,e2];omega
   ·have e1 : (rest - 1) / 2 = rest / 2:=by omega
    have e2 : (rest - 1) % 2 = 0:=by omega
    rw [e1,e2,sub_and (fU h1)];omega
theorem diff_and (a s l : Nat) : diff (a &&& s) l = a &&& diff s l:=yY fun i=>by
 rw [zV,Nat.testBit_and,Nat.testBit_and,zV];cases a.testBit i <;> cases s.testBit i <;> rfl
theorem zdu (s c : Nat) : Sub (diff s c) s:=fun i h=>by rw [zV,Bool.and_eq_true] at h;exact h.1
theorem zad (d : Dk) (set : Nat) : ∀ (f rest : Nat),rest < f -> Sub rest (diff set (lowb set)) -> ∀ r,Sub r (diff set (lowb set)) -> r <= rest -> zn d (r ||| lowb set) = true -> r ||| lowb set ∈ ko d set f rest
 | 0,_,h,_,_,_,_,_=>absurd h (Nat.not_lt_zero _)
 | f + 1,rest,hf,hr,r,h1,h2,h3=>by
   rw [je,List.mem_append]
   by_cases he : r = rest
   ·subst he;left;rw [if_pos h3];exact List.mem_singleton.2 rfl
   ·right
    rw [if_neg (by omega)]
    have e:=sub_pred rest r _ hr h1 (by omega)
    rw [diff_and]
    have hle : (rest - 1) &&& diff set (lowb set) <= rest - 1:=Nat.and_le_left
    exact zad d set f _ (by omega) (fun i h=>by rw [Nat.testBit_and,Bool.and_eq_true] at h;exact h.2) r h1 e h3
theorem zdd : ∀ s : Fin 512,s.val ≠ 0 -> ∃ i : Fin 9,lowb s.val = 2 ^ i.val:=by decide +kernel
theorem lowb_one {s : Nat} (h0 : s ≠ 0) (h : s < 512) : ∃ i,i < 9 /\ lowb s = 2 ^ i:=by
 obtain ⟨i,hi⟩:=zdd ⟨s,h⟩ h0
 exact ⟨i.val,i.isLt,hi⟩
theorem zcy {i c : Nat} : Sub (2 ^ i) c ↔ c.testBit i = true:=by
 constructor
 ·intro h;exact h i (by rw [Nat.testBit_two_pow_self])
 ·intro h j hj;rw [Nat.testBit_two_pow,decide_eq_true_eq] at hj;subst hj;exact h
theorem carts_iff (d : Dk) {set c : Nat} (h9 : set < 512) : c ∈ yD d set ↔ Sub c set /\ Sub (lowb set) c /\ zn d c = true:=by
 refine ⟨jC d,fun ⟨h1,h2,h3⟩=>?_⟩
 have e : diff c (lowb set) ||| lowb set = c:=yY fun i=>by
  rw [Nat.testBit_or,zV]
  cases hc : c.testBit i
  ·cases hl : (lowb set).testBit i
   ·rfl
   ·rw [h2 i hl] at hc;cases hc
  ·cases hl : (lowb set).testBit i <;> rfl
 have hs : Sub (diff c (lowb set)) (diff set (lowb set)):=fun i h=>by
  rw [zV,Bool.and_eq_true] at h ⊢;exact ⟨h1 i h.1,h.2⟩
 have:=zad d set 512 (diff set (lowb set)) (by have:=jW set (lowb set);omega) (Sub.refl _) (diff c (lowb set)) hs hs.le (by rw [e];exact h3)
 rw [e] at this;exact this
inductive Pk (R : Nat -> Bool) : Nat -> Nat -> Prop
 | nil : Pk R 0 0
 | cons {n set : Nat} (c : Nat) (hr : R c = true) (hs : Sub c set) (h0 : c ≠ 0) (t : Pk R n (diff set c)) : Pk R (n + 1) set
theorem diff_diff (s a b : Nat) : diff (diff s a) b = diff (diff s b) a:=yY fun i=>by
 simp only [zV];cases s.testBit i <;> cases a.testBit i <;> cases b.testBit i <;> rfl
theorem fk {c i : Nat} (h : c.testBit i = true) : c ≠ 0:=fun e=>by rw [e,Nat.zero_testBit] at h;cases h
theorem Pk.first {R : Nat -> Bool} {n set i : Nat} (h : Pk R n set) (hi : set.testBit i = true) : ∃ c k,n = k + 1 /\ R c = true /\ Sub c set /\ c.testBit i = true /\ Pk R k (diff set c):=by
 induction h with
 | nil=>rw [Nat.zero_testBit] at hi;cases hi
 | @cons n set c hr hs h0 t ih =>
   cases hc : c.testBit i
   ·obtain ⟨c',k,h1,h2,h3,h4,h5⟩:=ih (by rw [zV,hi,hc];rfl)
    subst h1
    refine ⟨c',k + 1,rfl,h2,h3.trans (zdu _ _),h4,.cons c hr (fun j hj=>?_) h0 (by rw [diff_diff];exact h5)⟩
    rw [zV,hs j hj]
    cases hc' : c'.testBit j
    ·rfl
    ·have:=h3 j hc';rw [zV,hj,Bool.not_true,Bool.and_false] at this;cases this
   ·exact ⟨c,n,rfl,hr,hs,hc,t⟩
theorem Pk.none {R : Nat -> Bool} {set : Nat} (h : Pk R 0 set) : set = 0:=by cases h;rfl
structure zb8 (R : Nat -> Bool) (set v : Nat) : Prop where
 le : v <= 10
 lo : ∀ n,Pk R n set -> v <= n
 is : v < 10 -> Pk R v set
def zbX (R : Nat -> Bool) (m : List (Int × Nat)) : Prop:=∀ (s : Nat) v,look (s : Int) m = some v -> zb8 R s v
theorem zcF (d : Dk) : ∀ (f set : Nat) (m : List (Int × Nat)),set < f -> set < 512 -> MOk m -> zbX (zn d) m -> zb8 (zn d) set (ofM d f set m).1 /\ zbX (zn d) (ofM d f set m).2
 | 0,_,_,h,_,_,_=>absurd h (Nat.not_lt_zero _)
 | f + 1,set,m,hf,h9,mo,me=>by
   rw [qM]
   cases hl : look (set : Int) m with
   | some v=>exact ⟨me set v hl,me⟩
   | none =>
     have h0 : set ≠ 0:=fun e=>by subst e;rw [show ((0 : Nat) : Int) = 0 from rfl,mo.z] at hl;cases hl
     obtain ⟨i,_,hi⟩:=lowb_one h0 h9
     have hbit : set.testBit i = true:=zcy.1 (hi ▸ zal set)
     have fold : ∀ (cs : List Nat) (p : Nat × List (Int × Nat)),(∀ c ∈ cs,c ∈ yD d set) -> p.1 <= 10 -> (p.1 < 10 -> Pk (zn d) p.1 set) -> MOk p.2 -> zbX (zn d) p.2 ->
       ((cs.foldl (yk d f set) p).1 <= 10 /\ ((cs.foldl (yk d f set) p).1 < 10 -> Pk (zn d) (cs.foldl (yk d f set) p).1 set) /\ (cs.foldl (yk d f set) p).1 <= p.1 /\ (∀ c ∈ cs,∀ n,Pk (zn d) n (diff set c) -> (cs.foldl (yk d f set) p).1 <= n + 1)) /\
       zbX (zn d) (cs.foldl (yk d f set) p).2:=by
      intro cs
      induction cs with
      | nil=>intro p _ h1 h2 h3 h4;exact ⟨⟨h1,h2,Nat.le_refl _,by simp⟩,h4⟩
      | cons c cs ih =>
        intro p hc h1 h2 h3 h4
        rw [List.foldl_cons]
        have hm:=hc c List.mem_cons_self
        obtain ⟨k1,k2,k3⟩:=jC d hm
        obtain ⟨hlt,hc9⟩:=zd3 d (by omega) h9 hm
        obtain ⟨g1,g2⟩:=zcF d f (diff set c) p.2 (by omega) (by omega) h3 h4
        obtain ⟨g3,g4⟩:=ji d f (diff set c) p.2 h3
        obtain ⟨⟨a1,a2,a3,a4⟩,a5⟩:=ih (yk d f set p c) (fun x hx=>hc x (List.mem_cons_of_mem _ hx)) (by simp only [yk];omega) (fun hlt10=>by
         simp only [yk] at hlt10 ⊢
         rcases Nat.le_total p.1 ((ofM d f (diff set c) p.2).1 + 1) with hle | hle
         ·rw [Nat.min_eq_left hle] at hlt10 ⊢;exact h2 hlt10
         ·rw [Nat.min_eq_right hle] at hlt10 ⊢
          exact .cons c k3 k1 (fk (k2 i (by rw [hi,Nat.testBit_two_pow_self]))) (g1.is (by omega))) g4 g2
        refine ⟨⟨a1,a2,?_,?_⟩,a5⟩
        ·exact Nat.le_trans a3 (Nat.min_le_left _ _)
        ·intro x hx n hn
         rcases List.mem_cons.1 hx with rfl | hx
         ·have:=g1.lo n hn;have h5:=Nat.le_trans a3 (Nat.min_le_right _ _);omega
         ·exact a4 x hx n hn
     obtain ⟨⟨a1,a2,_,a4⟩,a5⟩:=fold (yD d set) (10,m) (fun _ h=>h) (Nat.le_refl 10) (fun h=>absurd h (by simp)) mo me
     have hopt : zb8 (zn d) set ((yD d set).foldl (yk d f set) (10,m)).1:=⟨a1,fun n hn=>by
      obtain ⟨c,k,rfl,h1,h2,h3,h4⟩:=hn.first hbit
      exact a4 c ((carts_iff d h9).2 ⟨h2,hi ▸ zcy.2 h3,h1⟩) k h4,a2⟩
     refine ⟨hopt,fun s v e=>?_⟩
     rw [qi] at e
     split at e
     ·rename_i he;cases e;have : s = set:=by omega
      subst this;exact hopt
     ·exact a5 s v e
theorem zaX (R : Nat -> Bool) : zbX R [(0,0)]:=fun s v h=>by
 simp only [look] at h
 split at h
 ·rename_i e;cases h;have : s = 0:=by omega
  subst this;exact ⟨by omega,fun _ _=>Nat.zero_le _,fun _=>.nil⟩
 ·cases h
theorem many_opt (d : Dk) (h : d.l.sacks.length <= 9) : zb8 (zn d) (allD d) (ye d):=by
 have hall : allD d < 512:=by have:=pow9 h;unfold allD;omega
 exact (zcF d 512 (allD d) _ hall hall MOk.zero (zaX _)).1
end GA
end
section
namespace GA
open Go Go.RowKit Go.Proofs
theorem zch : ∀ (f i s : Nat),s < 2 ^ f -> ∀ x : Int,x ∈ ym f i s ↔ ∃ j : Nat,x = ((i + j : Nat) : Int) /\ s.testBit j = true
 | 0,i,s,h,x=>by
   have : s = 0:=by simpa using h
   subst this
   simp [ym]
 | f + 1,i,s,h,x=>by
   have ih:=zch f (i + 1) (s / 2) (by rw [Nat.pow_succ] at h;omega) x
   have hz : (∃ j : Nat,x = ((i + j : Nat) : Int) /\ s.testBit j = true) ↔ (x = (i : Int) /\ s % 2 = 1) \/ ∃ j : Nat,x = ((i + 1 + j : Nat) : Int) /\ (s / 2).testBit j = true:=by
    constructor
    ·rintro ⟨j,h1,h2⟩
     rcases j with _ | j
     ·left;rw [Nat.testBit_zero,decide_eq_true_eq] at h2;exact ⟨by simpa using h1,h2⟩
     ·right;rw [Nat.testBit_succ] at h2;exact ⟨j,by rw [h1];congr 1;omega,h2⟩
    ·rintro (⟨h1,h2⟩ | ⟨j,h1,h2⟩)
     ·exact ⟨0,by simpa using h1,by rw [Nat.testBit_zero,decide_eq_true_eq];exact h2⟩
     ·exact ⟨j + 1,by rw [h1];congr 1;omega,by rw [Nat.testBit_succ];exact h2⟩
   rw [hz,<- ih]
   have e : ym (f + 1) i s = if s = 0 then [] else if s % 2 = 1 then (i : Int) :: ym f (i + 1) (s / 2) else ym f (i + 1) (s / 2):=rfl
   rw [e]
   split
   ·rename_i h0;subst h0;rw [Nat.zero_div,zbf];simp
   ·split
    ·rename_i h1;rw [List.mem_cons];simp [h1]
    ·rename_i h1;simp [h1]
theorem zdU {s : Nat} (h : s < 512) (x : Int) : x ∈ bits s ↔ ∃ j : Nat,x = (j : Int) /\ s.testBit j = true:=by
 have:=zch 62 0 s (by omega) x
 unfold bits
 simpa using this
theorem zb3 (set : Nat) (p : Int) : kV set p = set.testBit p.toNat:=by
 unfold kV;rw [Nat.testBit_eq_decide_div_mod_eq]
 rcases Nat.mod_two_eq_zero_or_one (set / 2 ^ p.toNat) with h | h <;> rw [h] <;> rfl
theorem zbM {a b : Nat} : diff a b = 0 ↔ Sub a b:=by
 constructor
 ·intro h i hi
  cases hb : b.testBit i
  ·have:=zV a b i;rw [h,hi,hb,Nat.zero_testBit] at this;cases this
  ·rfl
 ·intro h
  apply yY;intro i
  rw [zV,Nat.zero_testBit]
  cases ha : a.testBit i
  ·rfl
  ·rw [h i ha];rfl
def allP (b : List Nat) (p : Int × Int) : Nat:=b.getD p.1.toNat 0 ||| b.getD p.2.toNat 0
theorem yh (b : List Nat) (p : Int × Int) {i : Nat} (hi : i < b.length) : (zC b p).getD i 0 = if (allP b p).testBit i = true then b.getD i 0 ||| allP b p else b.getD i 0:=by
 have e : (allP b p).testBit i = decide ((b.getD p.1.toNat 0 ||| b.getD p.2.toNat 0) / 2 ^ i % 2 = 1):=Nat.testBit_eq_decide_div_mod_eq
 rw [e]
 unfold zC allP
 simp only [List.getD_eq_getElem?_getD,List.getElem?_mapIdx,List.getElem?_eq_getElem hi,Option.map_some,Option.getD_some,decide_eq_true_eq]
theorem vP (b : List Nat) (p : Int × Int) {i : Nat} (hi : ¬ i < b.length) : (zC b p).getD i 0 = 0:=by
 rw [List.getD_eq_getElem?_getD,List.getElem?_eq_none (by rw [jr];omega)];rfl
theorem qx (b : List Nat) (p : Int × Int) (i : Nat) : Sub (b.getD i 0) ((zC b p).getD i 0):=by
 by_cases hi : i < b.length
 ·rw [yh b p hi];split
  ·intro j hj;rw [Nat.testBit_or,hj];rfl
  ·exact Sub.refl _
 ·rw [List.getD_eq_getElem?_getD,List.getElem?_eq_none (by omega)];exact Sub.zero _
theorem zcc : ∀ (ps : List (Int × Int)) (b : List Nat) (i : Nat),Sub (b.getD i 0) ((ps.foldl zC b).getD i 0)
 | [],_,_=>Sub.refl _
 | p :: ps,b,i=>by rw [List.foldl_cons];exact (qx b p i).trans (zcc ps _ i)
theorem zbg (l : Ld) : ∀ (n : Nat) (b : List Nat) (i : Nat),Sub (b.getD i 0) ((zU l n b).getD i 0)
 | 0,_,_=>Sub.refl _
 | n + 1,b,i=>by
   show Sub _ ((if zE l b = b then b else zU l n (zE l b)).getD i 0)
   split
   ·exact Sub.refl _
   ·exact (zcc _ b i).trans (zbg l n _ i)
theorem zaC (l : Ld) : ∀ (n : Nat) (b : List Nat),msr b < n -> (∀ i,b.getD i 0 < 512) -> zE l (zU l n b) = zU l n b
 | 0,_,h,_=>absurd h (Nat.not_lt_zero _)
 | n + 1,b,h,hs=>by
   show zE l (if zE l b = b then b else zU l n (zE l b)) = if zE l b = b then b else zU l n (zE l b)
   split
   ·assumption
   ·rename_i hne
    have:=msr_lt b (zE l b) (jA l b).symm (zdY l b) (jT l b hs) (Ne.symm hne)
    exact zaC l n _ (by omega) (jT l b hs)
theorem zb6 : ∀ (ps : List (Int × Int)) (b : List Nat),ps.foldl zC b = b -> ∀ p ∈ ps,zC b p = b
 | [],_,_,_,h=>by simp at h
 | q :: ps,b,h,p,hp=>by
   rw [List.foldl_cons] at h
   have hq : zC b q = b:=by
    refine y5 (d:=0) (jr b q) fun j _=>?_
    have h1:=fg b q j
    have h2:=fZ ps (zC b q) j
    rw [h] at h2;omega
   rcases List.mem_cons.1 hp with rfl | hp
   ·exact hq
   ·rw [hq] at h;exact zb6 ps b h p hp
def Cl (l : Ld) (c : Nat) : Prop:=∀ p ∈ l.wth,c.testBit p.1.toNat = c.testBit p.2.toNat
def Inv (c : Nat) (b : List Nat) : Prop:=∀ i,(c.testBit i = true -> Sub (b.getD i 0) c) /\ (c.testBit i = false -> ∀ j,(b.getD i 0).testBit j = true -> c.testBit j = false)
theorem Inv.step {c : Nat} {b : List Nat} {p : Int × Int} (h : Inv c b) (hp : c.testBit p.1.toNat = c.testBit p.2.toNat) : Inv c (zC b p):=by
 intro i
 by_cases hi : i < b.length
 ·rw [yh b p hi]
  split
  ·rename_i ha
   unfold allP at ha ⊢
   cases h1 : c.testBit p.1.toNat
   ·have k1:=(h p.1.toNat).2 h1
    have k2:=(h p.2.toNat).2 (hp ▸ h1)
    have hci : c.testBit i = false:=by
     rw [Nat.testBit_or,Bool.or_eq_true] at ha
     exact ha.elim (k1 i) (k2 i)
    refine ⟨fun e=>(by rw [hci] at e;cases e),fun _ j hj=>?_⟩
    rw [Nat.testBit_or,Nat.testBit_or,Bool.or_eq_true,Bool.or_eq_true] at hj
    rcases hj with hj | hj | hj
    ·exact (h i).2 hci j hj
    ·exact k1 j hj
    ·exact k2 j hj
   ·have k1:=(h p.1.toNat).1 h1
    have k2:=(h p.2.toNat).1 (hp ▸ h1)
    have hci : c.testBit i = true:=by
     rw [Nat.testBit_or,Bool.or_eq_true] at ha
     exact ha.elim (k1 i) (k2 i)
    refine ⟨fun _ j hj=>?_,fun e=>(by rw [hci] at e;cases e)⟩
    rw [Nat.testBit_or,Nat.testBit_or,Bool.or_eq_true,Bool.or_eq_true] at hj
    rcases hj with hj | hj | hj
    ·exact (h i).1 hci j hj
    ·exact k1 j hj
    ·exact k2 j hj
  ·exact h i
 ·rw [vP b p hi]
  exact ⟨fun _=>Sub.zero _,fun _ j hj=>by rw [Nat.zero_testBit] at hj;cases hj⟩
theorem Inv.fold {c : Nat} : ∀ (ps : List (Int × Int)) (b : List Nat),(∀ p ∈ ps,c.testBit p.1.toNat = c.testBit p.2.toNat) -> Inv c b -> Inv c (ps.foldl zC b)
 | [],_,_,h=>h
 | p :: ps,b,hp,h=>by rw [List.foldl_cons];exact Inv.fold ps _ (fun q hq=>hp q (List.mem_cons_of_mem _ hq)) (h.step (hp p List.mem_cons_self))
theorem Inv.close {l : Ld} {c : Nat} (hc : Cl l c) : ∀ (n : Nat) (b : List Nat),Inv c b -> Inv c (zU l n b)
 | 0,_,h=>h
 | n + 1,b,h=>by
   show Inv c (if zE l b = b then b else zU l n (zE l b))
   split
   ·exact h
   ·exact Inv.close hc n _ (Inv.fold _ _ hc h)
theorem fJ {n i : Nat} (hi : i < 9) : (ndI n).getD i 0 = if i < n then 2 ^ i else 0:=by
 unfold ndI;rw [List.getD_eq_getElem?_getD,List.getElem?_map,List.getElem?_range hi];rfl
theorem Inv.zero (c n : Nat) : Inv c (ndI n):=by
 intro i
 by_cases hi : i < 9
 ·rw [fJ hi]
  split
  ·refine ⟨fun h=>zcy.2 h,fun h j hj=>?_⟩
   rw [Nat.testBit_two_pow,decide_eq_true_eq] at hj;subst hj;exact h
  ·exact ⟨fun _=>Sub.zero _,fun _ j hj=>by rw [Nat.zero_testBit] at hj;cases hj⟩
 ·rw [List.getD_eq_getElem?_getD,List.getElem?_eq_none (by rw [jw];omega)]
  exact ⟨fun _=>Sub.zero _,fun _ j hj=>by rw [Option.getD_none,Nat.zero_testBit] at hj;cases hj⟩
theorem j3 {l : Ld} (o : LdOk l) {i : Nat} (hi : i < l.sacks.length) : ((zf l).nd.getD i 0).testBit i = true:=by
 refine zbg l 5000 (ndI l.sacks.length) i i ?_
 rw [fJ (by have:=o.n;omega),if_pos hi,Nat.testBit_two_pow_self]
theorem zax {l : Ld} {c : Nat} (hc : Cl l c) {i : Nat} (hi : c.testBit i = true) : Sub ((zf l).nd.getD i 0) c:=
 (Inv.close hc 5000 _ (Inv.zero c _) i).1 hi
theorem nd_fix {l : Ld} (o : LdOk l) : ∀ p ∈ l.wth,zC (zf l).nd p = (zf l).nd:=
 zb6 _ _ (zaC l 5000 _ (by have:=msr_le (ndI l.sacks.length) (jw _);omega) (gK _))
theorem zcT {l : Ld} : (zf l).nd.length = 9:=by show (zU l 5000 _).length = 9;rw [qd,jw]
structure RightP (l : Ld) (c : Nat) : Prop where
 w : (sumW (wts l) c : Int) <= l.bears
 wp : Cl l c
 ap : ∀ p ∈ l.apart,¬ (c.testBit p.1.toNat = true /\ c.testBit p.2.toNat = true)
theorem hv_get {l : Ld} (o : LdOk l) {c : Nat} (hc : c < 2 ^ l.sacks.length) : (zf l).hv.getD c 0 = sumW (wts l) c:=by
 have:=pow9 o.n
 show (hvF (wts l) (2 ^ l.sacks.length)).getD c 0 = _
 rw [zcW (by omega),if_pos hc]
theorem bit_lt {c n i : Nat} (hc : c < 2 ^ n) (hi : c.testBit i = true) : i < n:=by
 rcases Nat.lt_or_ge i n with h | h
 ·exact h
 ·rw [Nat.testBit_lt_two_pow (Nat.lt_of_lt_of_le hc (Nat.pow_le_pow_right (by omega) h))] at hi;cases hi
theorem whole_iff {l : Ld} (o : LdOk l) {c : Nat} (hc : c < 2 ^ l.sacks.length) : v1 (zf l) c = true ↔ Cl l c /\ ∀ p ∈ l.apart,¬ (c.testBit p.1.toNat = true /\ c.testBit p.2.toNat = true):=by
 have h9:=pow9 o.n
 have hn:=o.n
 have hw : ((bits c).all fun i=>diff ((zf l).nd.getD i.toNat 0) c == 0) = true ↔ ∀ i : Nat,c.testBit i = true -> Sub ((zf l).nd.getD i 0) c:=by
  rw [List.all_eq_true]
  constructor
  ·intro h i hi
   have:=h (i : Int) ((zdU (by omega) _).2 ⟨i,rfl,hi⟩)
   rw [beq_iff_eq] at this;exact zbM.1 this
  ·intro h x hx
   obtain ⟨j,rfl,hj⟩:=(zdU (by omega) _).1 hx
   rw [beq_iff_eq];exact zbM.2 (h j hj)
 have ha : (l.apart.all fun p=>!kV c p.1 || !kV c p.2) = true ↔ ∀ p ∈ l.apart,¬ (c.testBit p.1.toNat = true /\ c.testBit p.2.toNat = true):=by
  rw [List.all_eq_true]
  constructor
  ·intro h p hp
   have:=h p hp
   simp only [zb3] at this
   rintro ⟨h1,h2⟩
   rw [h1,h2] at this;cases this
  ·intro h p hp
   have:=h p hp
   simp only [zb3]
   cases h1 : c.testBit p.1.toNat
   ·rfl
   ·cases h2 : c.testBit p.2.toNat
    ·rfl
    ·exact absurd ⟨h1,h2⟩ this
 unfold v1
 rw [Bool.and_eq_true,hw]
 show _ /\ (l.apart.all fun p=>!kV c p.1 || !kV c p.2) = true ↔ _
 rw [ha]
 refine and_congr_left fun _=>?_
 constructor
 ·intro h p hp
  have b:=o.wp p hp
  have e:=nd_fix o p hp
  have k1:=j3 o (i:=p.1.toNat) (by omega)
  have k2:=j3 o (i:=p.2.toNat) (by omega)
  have g1 : (allP (zf l).nd p).testBit p.1.toNat = true:=by unfold allP;rw [Nat.testBit_or,k1];rfl
  have g2 : (allP (zf l).nd p).testBit p.2.toNat = true:=by unfold allP;rw [Nat.testBit_or,k2,Bool.or_true]
  have e1:=yh (zf l).nd p (i:=p.1.toNat) (by rw [zcT];omega)
  have e2:=yh (zf l).nd p (i:=p.2.toNat) (by rw [zcT];omega)
  rw [e,if_pos g1] at e1
  rw [e,if_pos g2] at e2
  have s1 : c.testBit p.1.toNat = true -> c.testBit p.2.toNat = true:=fun hb=>h _ hb _ (by rw [e1,Nat.testBit_or,g2,Bool.or_true])
  have s2 : c.testBit p.2.toNat = true -> c.testBit p.1.toNat = true:=fun hb=>h _ hb _ (by rw [e2,Nat.testBit_or,g1,Bool.or_true])
  cases hb1 : c.testBit p.1.toNat
  ·cases hb2 : c.testBit p.2.toNat
   ·rfl
   ·rw [s2 hb2] at hb1;cases hb1
  ·rw [s1 hb1]
 ·intro h i hi;exact zax h hi
theorem gP {l : Ld} (o : LdOk l) {c : Nat} (hc : c < 2 ^ l.sacks.length) : zn (zf l) c = true ↔ RightP l c:=by
 unfold zn
 rw [Bool.and_eq_true,decide_eq_true_eq,hv_get o hc,whole_iff o hc]
 exact ⟨fun ⟨h1,h2,h3⟩=>⟨h1,h2,h3⟩,fun h=>⟨h.w,h.wp,h.ap⟩⟩
end GA
end
section
namespace GA
open Go Go.RowKit Go.Proofs
theorem XPut.ints {els : List AV} {n e : Nat} {k : List AV -> Prop} (xs : List Int) (x : Int) (hE : els = GA.ints xs) (h1 : n = xs.length) (h2 : e < n) (h : k (GA.ints (xs.set e x))) : XPut els n e (.int .i64 x) k:=by
 subst hE;exact XPut.map (f:=.int .i64) x rfl h1 h2 h
end GA
end
section
namespace GA
open Go Go.RowKit
section
variable {P : Program} {T : Tab} {N : Nat} {ρ : Option Nat} {H : List Blk} {σ : St} {D : List Nat}
theorem Walk.place {c : Code} {Q : Post} (x : Walk P N ρ c Q D σ (H ++ [.free])) : Walk P N ρ c Q D σ H:=by
 constructor
 intro E h β a w s
 obtain ⟨s',X⟩:=s.sr.push (w':=w) s.sr.env (fun _ _=>rfl) (.pointer none) .free (by intro b hb;simp [anchor] at hb) (fun _=>trivial)
 exact wpIn_mono (x.o E h _ a w ⟨s',fun u r e=>let ⟨v,h1,h2⟩:=s.fits u r e;⟨v,h1,X.rep h2⟩,s.size,s.df.ext X⟩) fun _ _ _=>Conc.ext X
theorem yy.at {H : List Blk} {b : Blk} {k : Nat -> List Blk -> Prop} (i : Nat) (h1 : lget H i = some .free) (h2 : hset H i b fun H'=>k i H') : yy H b k:=⟨i,h1,h2⟩
end
end GA
end
section
namespace GA
open Go Go.RowKit Go.Proofs
theorem dup_sk (nl : Bool) (xs : List Sk) (hx : xs.length <= 100000) : Comp Tryz.prog 91 [.sl nl (xs.map skA)] (.sl false (xs.map skA)):=by
 refine Comp.body (T:=tab) (res:=[.tmp 2]) zb [] Tryz.func91 rfl (by kernel_rfl) Tryz.ntmps91 rfl (by simp only [List.length_cons,List.length_nil];decide) (by simp only [lowL,AV.low,yU];rfl) ?_;conv=>whnf
 refine zj.mk ⟨by omega,by simp,by unfold Room;simp;omega⟩ ?_
 conv=>whnf
 refine zj.mk (zq xs) ?_
 conv=>whnf
 refine zj.mk ⟨rfl,rfl,by unfold Room;simp;omega⟩ ?_
 conv=>whnf
 exact ⟨Froz.grow rfl (by simp) (yU xs)⟩
theorem dup_pr (nl : Bool) (xs : List (Int × Int)) (hx : xs.length <= 100000) : Comp Tryz.prog 92 [.sl nl (xs.map prA)] (.sl false (xs.map prA)):=by
 refine Comp.body (T:=tab) (res:=[.tmp 2]) zb [] Tryz.func92 rfl (by kernel_rfl) Tryz.ntmps92 rfl (by simp only [List.length_cons,List.length_nil];decide) (by simp only [lowL,AV.low,kg];rfl) ?_;conv=>whnf
 refine zj.mk ⟨by omega,by simp,by unfold Room;simp;omega⟩ ?_
 conv=>whnf
 refine zj.mk (zp xs) ?_
 conv=>whnf
 refine zj.mk ⟨rfl,rfl,by unfold Room;simp;omega⟩ ?_
 conv=>whnf
 exact ⟨Froz.grow rfl (by simp) (kg xs)⟩
def ownL (l : Ld) : Ld:=⟨l.bears,l.shrink,false,l.sacks,false,l.apart,false,l.wth⟩
theorem own_c (l : Ld) (o : LdW l) : Comp Tryz.prog 43 [ldA l] (ldA (ownL l)):=by
 have h1:=o.h1
 have h2:=o.h2
 have h3:=o.h3
 refine Comp.body (T:=tab) (res:=[.cell 2 27]) zb [1] Tryz.func43 rfl (by kernel_rfl) Tryz.ntmps43 rfl (by simp only [List.length_cons,List.length_nil];decide) (by simp only [lowL,AV.low,ldL];rfl) ?_;conv=>whnf
 skip
 apply Walk.drawX zb zk [] [10,12,14] (hsC [[.cells (ldC l),.cells [.int .i64 0,.int .i64 0,.sl true [],.sl true [],.sl true []]],
  [.cells (ldC { l with nls:=false }),.cells [.int .i64 0,.int .i64 0,.sl true [],.sl true [],.sl true []]],
  [.cells (ldC { l with nls:=false,nla:=false }),.cells [.int .i64 0,.int .i64 0,.sl true [],.sl true [],.sl true []]],
  [.cells (ldC { l with nls:=false,nla:=false,nlw:=false }),.cells [.int .i64 0,.int .i64 0,.sl true [],.sl true [],.sl true []]]]) [_,_,_,_,_,_,_,_,_,_,_,_,_,_,_] (by kernel_rfl) rfl
 ·skip
  repeat' first|(with_reducible apply XAnd.mk)|((first|(with_reducible apply Chk.go)|(with_reducible apply ChkA.go));conv=>whnf)|(exact zg.mk rfl rfl)|(with_reducible exact trivial)|((first|(refine za.ret (dup_sk _ l.sacks h1) ?_)|(refine za.ret (dup_pr _ l.apart (by omega)) ?_)|(refine za.ret (dup_pr _ l.wth (by omega)) ?_));conv=>whnf)|fail
 ·skip
  repeat' first|(with_reducible apply XAnd.mk)|((first|(with_reducible apply Chk.go)|(with_reducible apply ChkF.go)|(with_reducible apply ChkB.go));conv=>whnf)|(exact zg.mk rfl rfl)|(with_reducible exact trivial)|((refine za.ret (dup_pr _ l.apart (by omega)) ?_);conv=>whnf)|fail
 ·conv=>whnf
  skip
  exact ⟨Froz.low (ldL (ownL l))⟩
end GA
end
section
namespace GA
open Go Go.RowKit Go.Proofs
def wsK (l : Ld) (k : Nat) : List Int:=(l.sacks.take k).map (zO l)
theorem zdB (l : Ld) {k : Nat} (h : k < l.sacks.length) : wsK l (k + 1) = wsK l k ++ [zO l (l.sacks.getD k default)]:=by
 unfold wsK;rw [zS h,List.map_append];rfl
theorem wsK_len (l : Ld) {k : Nat} (h : k <= l.sacks.length) : (wsK l k).length = k:=by
 unfold wsK;rw [List.length_map,List.length_take];omega
theorem wsK_all (l : Ld) {k : Nat} (h : k = l.sacks.length) : wsK l k = l.sacks.map (zO l):=by
 subst h;unfold wsK;rw [List.take_length]
def w6 (l : Ld) : AV:=if zi l = 0 then .tup [slA (l.sacks.map (zO l)),.int .i64 0] else .tup [.sl true [],.int .i64 (zi l)]
theorem gA (l : Ld) (o : LdW l) : Comp Tryz.prog 8 [ldA l] (w6 l):=by
 refine Comp.body (T:=tab) (res:=[.tmp 2,.tmp 3]) zb [] Tryz.func8 rfl (by kernel_rfl) Tryz.ntmps8 rfl (by simp only [List.length_cons,List.length_nil];decide) (by simp only [lowL,AV.low,ldL];rfl) ?_;conv=>whnf
 refine za.ret (kS l o.w o.h1 o.h2 o.h3) ?_
 conv=>whnf
 unfold w6
 repeat' first|((with_reducible apply XBr.bne) <;> (intro h;first|(exfalso;omega)|(conv=>whnf)))|fail
 ·rw [if_neg (by assumption)];exact ⟨Froz.low rfl⟩
 ·have h1 : zi l = 0:=by omega
  have ok:=(zB l).1 h1
  have hn:=ok.n
  rw [if_pos h1]
  refine Walk.nilgr 5 3 rfl ?_
  refine Walk.loopG zb [] (fun k : Nat=>k <= l.sacks.length) (fun k=>[(1,.pim (ldC l)),(2,.sl true []),(3,.int .i64 0),(14,.sl l.nls (l.sacks.map skA)),(15,natA l.sacks.length),(5,.gr 0 (wsK l k).length),(16,natA k)])
   (fun k=>[.grow 3 (wsK l k).isEmpty (ints (wsK l k))]) (fun k=>l.sacks.length - k) 0 (Nat.zero_le _) rfl ⟨rfl,rfl,rfl,rfl,congrArg (fun n : Nat=>some (AV.int .i64 n)) (by rw [List.length_map]),rfl,rfl,trivial⟩ ?_ ?_ ?_
  ·intro k _
   constructor
   ·intro x hx;simp only [List.mem_cons,List.not_mem_nil,or_false] at hx;subst hx;exact lowI _
   ·intro p hp;simp only [List.mem_cons,List.not_mem_nil,or_false] at hp;rcases hp with rfl | rfl | rfl | rfl | rfl | rfl | rfl <;> first|exact jo _|exact yU _ | rfl
  ·intro k _;exact Nat.le_refl _
  intro k hk
  have hl:=wsK_len l hk
  have hnx:=fun h=>zdB l (k:=k) h
  have hall:=fun h=>wsK_all l (k:=k) h
  generalize wsK l k = ws at hl hnx hall
  have hsk : k < l.sacks.length -> l.sacks.getD k default ∈ l.sacks:=fun h=>zu h
  conv=>whnf
  repeat' first|((with_reducible apply XBr.dec) <;> (intro h;first|(exfalso;omega)|((try simp only [List.length_map] at h);first|(exfalso;omega)|(conv=>whnf))))|(((with_reducible refine XIx.nat ?_ ?_ ?_);omega;(intro _;rfl));conv=>whnf)|fail
  ·have hs:=ok.sk _ (hsk (by omega))
   have s1:=ok.s1
   have s2:=ok.s2
   have hwt:=vS ok (hsk (by omega))
   repeat' first|((with_reducible refine XInt.i64 (by omega) (by omega) ?_);conv=>whnf)|((with_reducible refine zj.mk ?_ ?_);(first | omega | rfl | decide|exact ⟨rfl,by decide,rfl⟩|exact zz _|exact zp _|exact zq _|(unfold Room;constructor <;> ((try simp) <;> omega))|exact ⟨rfl,by simp only [List.length_map],by unfold Room;constructor <;> ((try simp) <;> omega)⟩|exact ⟨by omega,by omega,by unfold Room;constructor <;> ((try simp) <;> omega)⟩);conv=>whnf)|((refine za.ret (zaF l (l.sacks.getD k default) (by omega) (by omega) s1 (by omega)) ?_);conv=>whnf)|fail
   refine zw.go (k + 1) [.cells [.int .i64 (l.sacks.getD k default).m,.int .i64 (l.sacks.getD k default).o]] (by omega) (by omega) ?_ ⟨rfl,rfl,rfl,rfl,rfl,?_,rfl,trivial⟩
   ·rw [hnx (by omega)];simp only [List.map_append,ya];rfl
   ·rw [hnx (by omega)];simp only [List.length_append];rfl
  ·rw [hall (by omega)]
   exact ⟨Froz.tup (.cons (by unfold slA;exact Froz.grow rfl (by rw [List.length_map]) (lowI _)) (.cons (Froz.low rfl) .nil))⟩
end GA
end
section
namespace GA
open Go Go.RowKit Go.Proofs
def thL (l : Ld) : Ld:=⟨l.bears,l.shrink,l.sacks.isEmpty,l.sacks,l.nla,l.apart,l.nlw,l.wth⟩
theorem vi (l : Ld) (o : LdW l) : Comp Tryz.prog 44 [ldA l] (ldA (thL l)):=by
 have h1:=o.h1
 refine Comp.body (T:=tab) (res:=[.cell 2 99]) zb [2,3] Tryz.func44 rfl (by kernel_rfl) Tryz.ntmps44 rfl (by simp only [List.length_cons,List.length_nil];decide) (by simp only [lowL,AV.low,ldL];rfl) ?_;conv=>whnf
 skip
 refine Walk.nilcell 1 2 142 rfl rfl ?_
 refine Walk.loopG zb [] (fun k : Nat=>k <= l.sacks.length) (fun k=>[(2,.ptr 0 0),(3,.ptr 1 0),(16,.sl l.nls (l.sacks.map skA)),(17,natA l.sacks.length),(18,natA k)])
  (fun k=>[.cells [.int .i64 0,.int .i64 0,.sl true [],.sl true [],.sl true []],.cells [.int .i64 l.bears,.int .i64 l.shrink,.gr 2 k,.sl l.nla (l.apart.map prA),.sl l.nlw (l.wth.map prA)],.grow 142 (l.sacks.take k).isEmpty ((l.sacks.take k).map skA)])
  (fun k=>l.sacks.length - k) 0 (Nat.zero_le _) rfl ⟨rfl,rfl,rfl,congrArg (fun n : Nat=>some (AV.int .i64 n)) (by rw [List.length_map]),rfl,trivial⟩ ?_ ?_ ?_
 ·intro k _
  constructor
  ·intro x hx;simp only [List.mem_cons,List.not_mem_nil,or_false] at hx
   rcases hx with rfl | rfl | rfl <;> first|exact yU _|(simp only [Blk.low,lowL,AV.low,kg];rfl)
  ·intro p hp;simp only [List.mem_cons,List.not_mem_nil,or_false] at hp;rcases hp with rfl | rfl | rfl | rfl | rfl <;> first|exact yU _ | rfl
 ·intro k _;exact Nat.le_refl _
 intro k hk
 have hl : (l.sacks.take k).length = k:=by rw [List.length_take];omega
 have hnx:=fun h=>zS (xs:=l.sacks) (i:=k) h
 have hall : k = l.sacks.length -> l.sacks.take k = l.sacks:=fun h=>by rw [h,List.take_length]
 generalize l.sacks.take k = ss at hl hnx hall
 conv=>whnf
 repeat' first|((with_reducible apply XBr.dec) <;> (intro h;first|(exfalso;omega)|((try simp only [List.length_map] at h);first|(exfalso;omega)|(conv=>whnf))))|((with_reducible refine XInt.i64 (by omega) (by omega) ?_);conv=>whnf)|((with_reducible refine zj.mk ?_ ?_);(first | omega | rfl | decide|exact ⟨rfl,by decide,rfl⟩|exact zz _|exact zp _|exact zq _|(unfold Room;constructor <;> ((try simp) <;> omega))|exact ⟨rfl,by simp only [List.length_map],by unfold Room;constructor <;> ((try simp) <;> omega)⟩|exact ⟨by omega,by omega,by unfold Room;constructor <;> ((try simp) <;> omega)⟩);conv=>whnf)|(((with_reducible refine XIx.nat ?_ ?_ ?_);omega;(intro _;rfl));conv=>whnf)|fail
 ·refine zw.go (k + 1) [.cells [.int .i64 (l.sacks.getD k default).m,.int .i64 (l.sacks.getD k default).o]] (by omega) (by omega) ?_ ⟨rfl,rfl,rfl,rfl,rfl,trivial⟩
  rw [hnx (by omega)];simp only [List.map_append,ya];rfl
 ·have e:=hall (by omega)
  subst e
  obtain rfl : k = l.sacks.length:=by omega
  exact ⟨Froz.agg (rs':=ldC (thL l)) (by intro x hx;simp only [ldC,List.mem_cons,List.not_mem_nil,or_false] at hx;rcases hx with rfl | rfl | rfl | rfl | rfl <;> rfl) (.cons (Froz.low rfl) (.cons (Froz.low rfl) (.cons (Froz.grow (i:=2) (n:=l.sacks.length) (els:=l.sacks.map skA) rfl (by rw [List.length_map]) (yU _)) (.cons (Froz.low (kg _)) (.cons (Froz.low (kg _)) .nil)))))⟩
theorem equal_sk (n1 n2 : Bool) (xs : List (Sk)) (hx : xs.length <= 100000) : Comp Tryz.prog 113 [.sl n1 (xs.map skA),.sl n2 (xs.map skA)] (.bool true):=by
 refine Comp.body (T:=tab) (res:=[.tmp 4]) zb [] Tryz.func113 rfl (by kernel_rfl) Tryz.ntmps113 rfl (by simp only [List.length_cons,List.length_nil];decide) (by simp only [lowL,AV.low,yU];rfl) ?_;conv=>whnf
 repeat' first|((with_reducible apply XBr.bne) <;> (intro h;first|(exfalso;omega)|(conv=>whnf)))|fail
 refine Walk.loop zb [] (fun i : Nat=>i <= xs.length) (fun i=>[(0,.sl n1 (xs.map skA)),(1,.sl n2 (xs.map skA)),(12,.int .i64 xs.length),(13,.int .i64 i)]) (fun _=>[]) (fun i=>xs.length - i) 0 (Nat.zero_le _) rfl ⟨rfl,rfl,by simp only [List.length_map];rfl,rfl,trivial⟩ ?_
 intro i hi
 conv=>whnf
 repeat' first|((with_reducible apply XBr.dec) <;> (intro h;first|(exfalso;omega)|((try simp only [List.length_map] at h);first|(exfalso;omega)|(conv=>whnf))))|fail
 ·apply Walk.drawX zb zk [] [] (hsK _) [_,_,_,_,_,_,_,_,.bool false] (by kernel_rfl) rfl
  ·skip
   repeat' first|(((with_reducible refine XIx.nat ?_ ?_ ?_);omega;(intro _;rfl));conv=>whnf)|(with_reducible apply XAnd.mk)|((first|(with_reducible apply Chk.go)|(with_reducible apply ChkA.go));conv=>whnf)|(exact zg.mk rfl rfl)|(with_reducible exact trivial)|((refine XEqA.mk ⟨[_,_],[_,_],rfl,rfl,rfl,rfl,?_⟩);exact zg.mk (congrArg AV.bool (by simp)) rfl)|fail
  ·skip
   repeat' first|(with_reducible apply XAnd.mk)|((first|(with_reducible apply ChkF.go)|(with_reducible apply ChkB.go));conv=>whnf)|(with_reducible exact trivial)|fail
  ·conv=>whnf
   repeat' first|((first|(with_reducible apply XBr.ff)|(with_reducible refine XInt.i64 (by omega) (by omega) ?_));conv=>whnf)|fail
   exact zh.go (i + 1) (by omega) (by omega) rfl ⟨rfl,rfl,rfl,rfl,trivial⟩
 ·exact XOut.bool rfl
theorem eq_sk (n1 n2 : Bool) (xs : List (Sk)) (hx : xs.length <= 100000) : Comp Tryz.prog 94 [.sl n1 (xs.map skA),.sl n2 (xs.map skA)] (.bool true):=by
 refine Comp.body (T:=tab) (res:=[.tmp 4]) zb [] Tryz.func94 rfl (by kernel_rfl) Tryz.ntmps94 rfl (by simp only [List.length_cons,List.length_nil];decide) (by simp only [lowL,AV.low,yU];rfl) ?_;conv=>whnf
 repeat' first|((refine za.ret (equal_sk n1 n2 xs hx) ?_);conv=>whnf)|fail
 exact XOut.bool rfl
theorem equal_pr (n1 n2 : Bool) (xs : List (Int × Int)) (hx : xs.length <= 100000) : Comp Tryz.prog 114 [.sl n1 (xs.map prA),.sl n2 (xs.map prA)] (.bool true):=by
 refine Comp.body (T:=tab) (res:=[.tmp 4]) zb [] Tryz.func114 rfl (by kernel_rfl) Tryz.ntmps114 rfl (by simp only [List.length_cons,List.length_nil];decide) (by simp only [lowL,AV.low,kg];rfl) ?_;conv=>whnf
 repeat' first|((with_reducible apply XBr.bne) <;> (intro h;first|(exfalso;omega)|(conv=>whnf)))|fail
 refine Walk.loop zb [] (fun i : Nat=>i <= xs.length) (fun i=>[(0,.sl n1 (xs.map prA)),(1,.sl n2 (xs.map prA)),(12,.int .i64 xs.length),(13,.int .i64 i)]) (fun _=>[]) (fun i=>xs.length - i) 0 (Nat.zero_le _) rfl ⟨rfl,rfl,by simp only [List.length_map];rfl,rfl,trivial⟩ ?_
 intro i hi
 conv=>whnf
 repeat' first|((with_reducible apply XBr.dec) <;> (intro h;first|(exfalso;omega)|((try simp only [List.length_map] at h);first|(exfalso;omega)|(conv=>whnf))))|fail
 ·apply Walk.drawX zb zk [] [] (hsK _) [_,_,_,_,_,_,_,_,.bool false] (by kernel_rfl) rfl
  ·skip
   repeat' first|(((with_reducible refine XIx.nat ?_ ?_ ?_);omega;(intro _;rfl));conv=>whnf)|(with_reducible apply XAnd.mk)|((first|(with_reducible apply Chk.go)|(with_reducible apply ChkA.go));conv=>whnf)|(exact zg.mk rfl rfl)|(with_reducible exact trivial)|((refine XEqA.mk ⟨[_,_],[_,_],rfl,rfl,rfl,rfl,?_⟩);exact zg.mk (congrArg AV.bool (by simp)) rfl)|fail
  ·skip
   repeat' first|(with_reducible apply XAnd.mk)|((first|(with_reducible apply ChkF.go)|(with_reducible apply ChkB.go));conv=>whnf)|(with_reducible exact trivial)|fail
  ·conv=>whnf
   repeat' first|((first|(with_reducible apply XBr.ff)|(with_reducible refine XInt.i64 (by omega) (by omega) ?_));conv=>whnf)|fail
   exact zh.go (i + 1) (by omega) (by omega) rfl ⟨rfl,rfl,rfl,rfl,trivial⟩
 ·exact XOut.bool rfl
theorem eq_pr (n1 n2 : Bool) (xs : List (Int × Int)) (hx : xs.length <= 100000) : Comp Tryz.prog 95 [.sl n1 (xs.map prA),.sl n2 (xs.map prA)] (.bool true):=by
 refine Comp.body (T:=tab) (res:=[.tmp 4]) zb [] Tryz.func95 rfl (by kernel_rfl) Tryz.ntmps95 rfl (by simp only [List.length_cons,List.length_nil];decide) (by simp only [lowL,AV.low,kg];rfl) ?_;conv=>whnf
 repeat' first|((refine za.ret (equal_pr n1 n2 xs hx) ?_);conv=>whnf)|fail
 exact XOut.bool rfl
theorem zao (l : Ld) (o : LdW l) : Comp Tryz.prog 53 [ldA (ownL l),ldA l] (.bool true):=by
 have h1:=o.h1
 have h2:=o.h2
 have h3:=o.h3
 refine Comp.body (T:=tab) (res:=[.tmp 4]) zb [] Tryz.func53 rfl (by kernel_rfl) Tryz.ntmps53 rfl (by simp only [List.length_cons,List.length_nil];decide) (by simp only [lowL,AV.low,ldL];rfl) ?_;conv=>whnf
 skip
 refine Walk.norm zb [] [(2,.pim (ldC (ownL l))),(3,.pim (ldC l))] ⟨rfl,rfl,trivial⟩ ?_
 conv=>whnf
 repeat' first|((first|(with_reducible apply XBr.tt)|(with_reducible apply XBr.ff));conv=>whnf)|((with_reducible apply XBr.beq) <;> (intro h;first|(exfalso;omega)|(conv=>whnf)))|((first|(refine za.ret (eq_sk _ _ l.sacks (by omega)) ?_)|(refine za.ret (eq_pr _ _ l.apart (by omega)) ?_)|(refine za.ret (eq_pr _ _ l.wth (by omega)) ?_));conv=>whnf)|fail
 all_goals first|exact XOut.bool rfl|(exfalso;exact absurd rfl (by assumption))
def jg (l : Ld) : Bool:=decide (14 < l.sacks.length) || decide (12 < l.apart.length) || decide (12 < l.wth.length)
theorem qf (l : Ld) : Comp Tryz.prog 42 [ldA l] (.bool (jg l)):=by
 have e1 : ((l.sacks.map skA).length : Int) = l.sacks.length:=by rw [List.length_map]
 have e2 : ((l.apart.map prA).length : Int) = l.apart.length:=by rw [List.length_map]
 have e3 : ((l.wth.map prA).length : Int) = l.wth.length:=by rw [List.length_map]
 refine Comp.body (T:=tab) (res:=[.tmp 2]) zb [] Tryz.func42 rfl (by kernel_rfl) Tryz.ntmps42 rfl (by simp only [List.length_cons,List.length_nil];decide) (by simp only [lowL,AV.low,ldL];rfl) ?_;conv=>whnf
 repeat' first|((first|(with_reducible apply XBr.tt)|(with_reducible apply XBr.ff));conv=>whnf)|((with_reducible apply XBr.dec) <;> (intro h;first|(exfalso;omega)|((try simp only [List.length_map] at h);first|(exfalso;omega)|(conv=>whnf))))|fail
 all_goals
  refine XOut.bool ?_
  unfold jg
  rw [Bool.eq_iff_iff]
  simp only [Bool.or_eq_true,decide_eq_true_eq,Bool.or_assoc,Bool.true_eq_false,Bool.false_eq_true,true_iff,false_iff,iff_true,iff_false]
  omega
end GA
end
section
namespace GA
open Go Go.RowKit Go.Proofs
theorem jz {α : Type} {p : α -> Bool} {xs : List α} {d : α} {i : Nat} (hi : i < xs.length) (h : p (xs.getD i d) = false) : xs.all p = false:=by
 rw [List.all_eq_false];exact ⟨_,zu hi,by rw [h];simp⟩
theorem qI {α : Type} {p : α -> Bool} {xs : List α} {d : α} (h : ∀ j,j < xs.length -> p (xs.getD j d) = true) : xs.all p = true:=by
 rw [List.all_eq_true];intro x hx
 obtain ⟨j,hj,rfl⟩:=List.mem_iff_getElem.1 hx
 have:=h j hj
 rwa [List.getD_eq_getElem?_getD,List.getElem?_eq_getElem hj] at this
theorem XArr.gp {i m' e o : Nat} {n : Int} {m w : Nat} {k : AV -> Prop} (h1 : 0 <= n) (h2 : n < m) (h : k (.gp i m' e (o + n.toNat * w))) : XArr (.gp i m' e o) n m w k:=⟨h1,h2,h⟩
def skIn (s : Sk) : Bool:=inB s.m 1 100 && inB s.o 0 5
theorem ck3 {l : Ld} (h : ¬(9 < l.sacks.length \/ 8 < l.apart.length \/ 8 < l.wth.length)) (h2 : (inB l.bears 1 100 && inB l.shrink 0 90) = false) : zi l = 3:=by
 unfold zi;rw [if_neg h,if_pos h2]
theorem ck4 {l : Ld} (h : ¬(9 < l.sacks.length \/ 8 < l.apart.length \/ 8 < l.wth.length)) (h2 : (inB l.bears 1 100 && inB l.shrink 0 90) = true) (h3 : (l.sacks.all fun s=>inB s.m 1 100 && inB s.o 0 5) = false) : zi l = 3:=by
 unfold zi;rw [if_neg h,if_neg (by rw [h2];simp),if_pos h3]
theorem ck5 {l : Ld} (h : ¬(9 < l.sacks.length \/ 8 < l.apart.length \/ 8 < l.wth.length)) (h2 : (inB l.bears 1 100 && inB l.shrink 0 90) = true) (h3 : (l.sacks.all fun s=>inB s.m 1 100 && inB s.o 0 5) = true) (h4 : (l.apart ++ l.wth).all (prIn l) = false) : zi l = 1:=by
 unfold zi;rw [if_neg h,if_neg (by rw [h2];simp),if_neg (by rw [h3];simp),if_pos h4]
theorem ck6 {l : Ld} (h : ¬(9 < l.sacks.length \/ 8 < l.apart.length \/ 8 < l.wth.length)) (h2 : (inB l.bears 1 100 && inB l.shrink 0 90) = true) (h3 : (l.sacks.all fun s=>inB s.m 1 100 && inB s.o 0 5) = true) (h4 : (l.apart ++ l.wth).all (prIn l) = true) (h5 : ((l.apart ++ l.wth).all fun p=>p.1 != p.2) = false) : zi l = 5:=by
 unfold zi;rw [if_neg h,if_neg (by rw [h2];simp),if_neg (by rw [h3];simp),if_neg (by rw [h4];simp),if_pos h5]
theorem ck0 {l : Ld} (h : ¬(9 < l.sacks.length \/ 8 < l.apart.length \/ 8 < l.wth.length)) (h2 : (inB l.bears 1 100 && inB l.shrink 0 90) = true) (h3 : (l.sacks.all fun s=>inB s.m 1 100 && inB s.o 0 5) = true) (h4 : (l.apart ++ l.wth).all (prIn l) = true) (h5 : ((l.apart ++ l.wth).all fun p=>p.1 != p.2) = true) : zi l = 0:=by
 unfold zi;rw [if_neg h,if_neg (by rw [h2];simp),if_neg (by rw [h3];simp),if_neg (by rw [h4];simp),if_neg (by rw [h5];simp)]
theorem kQ (l : Ld) (o : LdW l) : Comp Tryz.prog 45 [ldA l] (.int .i64 (zi l)):=by
 have h1:=o.h1
 have h2:=o.h2
 have h3:=o.h3
 have e1 : ((l.sacks.map skA).length : Int) = l.sacks.length:=by rw [List.length_map]
 have e2 : ((l.apart.map prA).length : Int) = l.apart.length:=by rw [List.length_map]
 have e3 : ((l.wth.map prA).length : Int) = l.wth.length:=by rw [List.length_map]
 refine Comp.body (T:=tab) (res:=[.tmp 2]) zb [] Tryz.func45 rfl (by kernel_rfl) Tryz.ntmps45 rfl (by simp only [List.length_cons,List.length_nil];decide) (by simp only [lowL,AV.low,ldL];rfl) ?_;conv=>whnf
 repeat' first|((first|(with_reducible apply XBr.tt)|(with_reducible apply XBr.ff));conv=>whnf)|((with_reducible apply XBr.dec) <;> (intro h;first|(exfalso;omega)|((try simp only [List.length_map] at h);first|(exfalso;omega)|(conv=>whnf))))|(refine za.ret (fx _ _ _) ?_;conv=>whnf)|((with_reducible apply XBr.mk') <;> (intro h;conv=>whnf))|fail
 ·refine XOut.int ?_;unfold zi;rw [if_pos (by omega)]
 ·refine XOut.int ?_;unfold zi;rw [if_pos (by omega)]
 ·refine XOut.int ?_;unfold zi;rw [if_pos (by omega)]
 ·refine XOut.int (ck3 (by omega) ?_).symm
  rw [ka] at h;simp only [Bool.not_eq_true'] at h;rw [h];rfl
 ·refine XOut.int (ck3 (by omega) ?_).symm
  rw [ka] at h;simp only [Bool.not_eq_true'] at h;rw [h,Bool.and_false]
 rename_i hA1 hA2 hA3 hB1
 have hA : ¬(9 < l.sacks.length \/ 8 < l.apart.length \/ 8 < l.wth.length):=by omega
 have hB : (inB l.bears 1 100 && inB l.shrink 0 90) = true:=by
  rw [ka,Bool.not_eq_false'] at h hB1;rw [h,hB1];rfl
 clear hA1 hA2 hA3 hB1 h
 refine Walk.loop zb [] (fun k : Nat=>k <= l.sacks.length /\ ∀ j,j < k -> skIn (l.sacks.getD j default) = true) (fun k=>[(1,.pim (ldC l)),(3,natA k)]) (fun _=>[]) (fun k=>l.sacks.length - k) 0 ⟨by omega,by omega⟩ rfl ⟨rfl,rfl,trivial⟩ ?_
 rintro k ⟨hk,hks⟩
 conv=>whnf
 repeat' first|((first|(with_reducible apply XBr.tt)|(with_reducible apply XBr.ff));conv=>whnf)|((with_reducible apply XBr.dec) <;> (intro h;first|(exfalso;omega)|((try simp only [List.length_map] at h);first|(exfalso;omega)|(conv=>whnf))))|((first|(with_reducible refine XInt.i64 (by omega) (by omega) ?_)|((with_reducible refine XIx.nat ?_ ?_ ?_);omega;(intro _;rfl)));conv=>whnf)|(refine za.ret (fx _ _ _) ?_;conv=>whnf)|((with_reducible apply XBr.mk') <;> (intro h;conv=>whnf))|fail
 ·refine XOut.int (ck4 hA hB (jz (d:=default) (i:=k) (by omega) ?_)).symm
  rw [ka] at h;simp only [Bool.not_eq_true'] at h
  have h' : inB (l.sacks.getD k default).m 1 100 = false:=h
  rw [h'];rfl
 ·refine XOut.int (ck4 hA hB (jz (d:=default) (i:=k) (by omega) ?_)).symm
  rw [ka] at h;simp only [Bool.not_eq_true'] at h
  have h' : inB (l.sacks.getD k default).o 0 5 = false:=h
  rw [h',Bool.and_false]
 ·rename_i hm
  refine zh.go (k + 1) ⟨by omega,fun j hj=>?_⟩ (by omega) rfl ⟨rfl,rfl,trivial⟩
  by_cases e : j = k
  ·subst e
   rw [ka,Bool.not_eq_false'] at h hm
   have h' : inB (l.sacks.getD j default).o 0 5 = true:=h
   have hm' : inB (l.sacks.getD j default).m 1 100 = true:=hm
   unfold skIn;rw [h',hm'];rfl
  ·exact hks j (by omega)
 have hC : (l.sacks.all fun s=>inB s.m 1 100 && inB s.o 0 5) = true:=qI (d:=default) fun j hj=>hks j (by omega)
 clear hks h
 apply Walk.drawX zb zk [] [3,6] (hsC [[],[.grow 31 false (l.apart.map prA)],[.grow 31 false (l.apart.map prA ++ l.wth.map prA)]]) [_,_,_,_,_,_,_,_] (by kernel_rfl) rfl
 ·skip
  repeat' first|((with_reducible refine zj.mk ?_ ?_);(first | omega | rfl | decide|exact ⟨rfl,by decide,rfl⟩|exact zz _|exact zp _|exact zq _|(unfold Room;constructor <;> ((try simp) <;> omega))|exact ⟨rfl,by simp only [List.length_map],by unfold Room;constructor <;> ((try simp) <;> omega)⟩|exact ⟨by omega,by omega,by unfold Room;constructor <;> ((try simp) <;> omega)⟩);conv=>whnf)|(with_reducible apply XAnd.mk)|((first|(with_reducible apply Chk.go)|(with_reducible apply ChkA.go));conv=>whnf)|(exact zg.mk rfl rfl)|(with_reducible exact trivial)|fail
 ·skip
  repeat' first|(with_reducible apply XAnd.mk)|((first|(with_reducible apply Chk.go)|(with_reducible apply ChkF.go)|(with_reducible apply ChkB.go));conv=>whnf)|(exact zg.mk rfl rfl)|(with_reducible exact trivial)|fail
 conv=>whnf
 skip
 have hpl : (l.apart ++ l.wth).length = l.apart.length + l.wth.length:=List.length_append
 generalize hps : l.apart ++ l.wth = ps at hpl
 refine Walk.loop zb [] (fun k : Nat=>k <= ps.length /\ ∀ j,j < k -> prIn l (ps.getD j default) = true) (fun k=>[(1,.pim (ldC l)),(4,.gr 0 ps.length),(5,natA k)]) (fun _=>[.grow 31 false (ps.map prA)]) (fun k=>ps.length - k) 0 ⟨by omega,by omega⟩ (by rw [<- hps,List.map_append];rfl) ⟨rfl,?_,rfl,trivial⟩ ?_
 ·exact congrArg (fun n=>some (AV.gr 0 n)) (by rw [List.length_map,List.length_map,hpl])
 clear hk k
 rintro k ⟨hk,hks⟩
 conv=>whnf
 repeat' first|((with_reducible apply XBr.dec) <;> (intro h;first|(exfalso;omega)|((try simp only [List.length_map] at h);first|(exfalso;omega)|(conv=>whnf))))|((refine zj.mk (List.length_map _) ?_);conv=>whnf)|fail
 ·by_cases hc : offB (ps.getD k default).1 0 (((l.sacks.map skA).length : Int) - 1) = true
  ·apply Walk.drawX zb zk [] [] (hsK _) [_,_,_,_,_,_,_,_,_,_,.bool true,_,_,_,_,_,_,_,_,_,_,.bool true] (by kernel_rfl) rfl
   ·skip
    repeat' first|((first|(with_reducible apply XBr.tt)|(with_reducible refine XInt.i64 (by omega) (by omega) ?_));conv=>whnf)|(with_reducible apply XAnd.mk)|((first|(with_reducible apply Chk.go)|(with_reducible apply ChkA.go));conv=>whnf)|(exact zg.mk rfl rfl)|(with_reducible exact trivial)|((first|(refine zj.mk ⟨List.length_map _,rfl,by omega,by omega⟩ ?_)|(refine XArr.gp (by decide) (by decide) ?_)|(refine XGet.map rfl (by omega) ?_));conv=>whnf)|(refine za.ret (fx _ _ _) ?_;conv=>whnf)|(exact zg.mk (congrArg AV.bool hc) rfl)|fail
   ·skip
    repeat' first|(with_reducible apply XAnd.mk)|((first|(with_reducible apply ChkF.go)|(with_reducible apply ChkB.go));conv=>whnf)|(with_reducible exact trivial)|fail
   ·conv=>whnf
    repeat' first|((with_reducible apply XBr.tt);conv=>whnf)|fail
    refine XOut.int (ck5 hA hB hC ?_).symm
    rw [hps]
    refine jz (d:=default) (i:=k) (by omega) ?_
    rw [ka,Bool.not_eq_true',e1] at hc
    unfold prIn;rw [hc];rfl
  ·rw [Bool.not_eq_true] at hc
   apply Walk.drawX zb zk [] [] (hsK _) [_,_,_,_,_,_,_,_,_,_,.bool false,_,_,_,_,_,_,_,_,_,_,.bool (offB (ps.getD k default).2 0 (((l.sacks.map skA).length : Int) - 1))] (by kernel_rfl) rfl
   ·skip
    repeat' first|((first|(with_reducible apply XBr.ff)|(with_reducible refine XInt.i64 (by omega) (by omega) ?_));conv=>whnf)|(with_reducible apply XAnd.mk)|((first|(with_reducible apply Chk.go)|(with_reducible apply ChkA.go));conv=>whnf)|(exact zg.mk rfl rfl)|(with_reducible exact trivial)|((first|(refine zj.mk ⟨List.length_map _,rfl,by omega,by omega⟩ ?_)|(refine XArr.gp (by decide) (by decide) ?_)|(refine XGet.map rfl (by omega) ?_));conv=>whnf)|(refine za.ret (fx _ _ _) ?_;conv=>whnf)|(exact zg.mk (congrArg AV.bool hc) rfl)|fail
   ·skip
    repeat' first|(with_reducible apply XAnd.mk)|((first|(with_reducible apply ChkF.go)|(with_reducible apply ChkB.go));conv=>whnf)|(with_reducible exact trivial)|fail
   ·conv=>whnf
    repeat' first|((with_reducible refine XInt.i64 (by omega) (by omega) ?_);conv=>whnf)|((with_reducible apply XBr.mk') <;> (intro h;conv=>whnf))|fail
    ·refine XOut.int (ck5 hA hB hC ?_).symm
     rw [hps]
     refine jz (d:=default) (i:=k) (by omega) ?_
     rw [ka,Bool.not_eq_true',e1] at h
     unfold prIn;rw [h,Bool.and_false]
    ·refine zh.go (k + 1) ⟨by omega,fun j hj=>?_⟩ (by omega) rfl ⟨rfl,rfl,rfl,trivial⟩
     by_cases e : j = k
     ·subst e
      rw [ka,Bool.not_eq_false',e1] at h hc
      unfold prIn;rw [h,hc];rfl
     ·exact hks j (by omega)
 have hD : (l.apart ++ l.wth).all (prIn l) = true:=by rw [hps];exact qI (d:=default) fun j hj=>hks j (by omega)
 clear hks
 refine Walk.loop zb [] (fun k : Nat=>k <= ps.length /\ ∀ j,j < k -> ((ps.getD j default).1 != (ps.getD j default).2) = true) (fun k=>[(4,.gr 0 ps.length),(6,natA k)]) (fun _=>[.grow 31 false (ps.map prA)]) (fun k=>ps.length - k) 0 ⟨by omega,by omega⟩ rfl ⟨rfl,rfl,trivial⟩ ?_
 clear hk
 rintro k ⟨hk,hks⟩
 conv=>whnf
 repeat' first|((with_reducible apply XBr.dec) <;> (intro h;first|(exfalso;omega)|((try simp only [List.length_map] at h);first|(exfalso;omega)|(conv=>whnf))))|((refine zj.mk (List.length_map _) ?_);conv=>whnf)|fail
 ·apply Walk.drawX zb zk [] [] (hsK _) [_,_,_,_,_,_,_,_,_,_,.bool ((ps.getD k default).1 == (ps.getD k default).2)] (by kernel_rfl) rfl
  ·skip
   repeat' first|(with_reducible apply XAnd.mk)|((first|(with_reducible apply Chk.go)|(with_reducible apply ChkA.go));conv=>whnf)|(exact zg.mk rfl rfl)|(with_reducible exact trivial)|((first|(refine zj.mk ⟨List.length_map _,rfl,by omega,by omega⟩ ?_)|(refine XArr.gp (by decide) (by decide) ?_)|(refine XGet.map rfl (by omega) ?_));conv=>whnf)|fail
  ·skip
   repeat' first|(with_reducible apply XAnd.mk)|((first|(with_reducible apply ChkF.go)|(with_reducible apply ChkB.go));conv=>whnf)|(with_reducible exact trivial)|fail
  ·conv=>whnf
   repeat' first|((with_reducible apply XBr.beq) <;> (intro h;first|(exfalso;omega)|(conv=>whnf)))|((with_reducible refine XInt.i64 (by omega) (by omega) ?_);conv=>whnf)|fail
   ·refine XOut.int (ck6 hA hB hC hD ?_).symm
    rw [hps]
    exact jz (d:=default) (i:=k) (by omega) (by rw [bne_eq_false_iff_eq];exact h)
   ·refine zh.go (k + 1) ⟨by omega,fun j hj=>?_⟩ (by omega) rfl ⟨rfl,rfl,trivial⟩
    by_cases e : j = k
    ·subst e;rw [bne_iff_ne];exact h
    ·exact hks j (by omega)
 ·refine XOut.int (ck0 hA hB hC hD ?_).symm
  rw [hps];exact qI (d:=default) fun j hj=>hks j (by omega)
end GA
end
section
namespace GA
open Go Go.RowKit Go.Proofs
structure Eqv (n : Nat) (b : List Nat) : Prop where
 self : ∀ i,i < n -> (b.getD i 0).testBit i = true
 same : ∀ i j,(b.getD j 0).testBit i = true -> b.getD i 0 = b.getD j 0
 lt : ∀ i j,(b.getD j 0).testBit i = true -> i < n /\ j < n
theorem Eqv.zero {n : Nat} (hn : n <= 9) : Eqv n (ndI n):=by
 have g : ∀ i j,((ndI n).getD j 0).testBit i = true -> i = j /\ j < n:=by
  intro i j h
  by_cases hj : j < 9
  ·rw [fJ hj] at h
   split at h
   ·rw [Nat.testBit_two_pow,decide_eq_true_eq] at h;exact ⟨h.symm,by assumption⟩
   ·rw [Nat.zero_testBit] at h;cases h
  ·rw [List.getD_eq_getElem?_getD,List.getElem?_eq_none (by rw [jw];omega),Option.getD_none,Nat.zero_testBit] at h;cases h
 refine ⟨fun i hi=>?_,fun i j h=>by rw [(g i j h).1],fun i j h=>?_⟩
 ·rw [fJ (by omega),if_pos hi,Nat.testBit_two_pow_self]
 ·have:=g i j h;omega
theorem Eqv.step {n : Nat} {b : List Nat} {p : Int × Int} (h : Eqv n b) (hn : n <= 9) (hb : b.length = 9) (h1 : p.1.toNat < n) (h2 : p.2.toNat < n) : Eqv n (zC b p):=by
 have ain : ∀ x,(allP b p).testBit x = true -> (b.getD p.1.toNat 0).testBit x = true \/ (b.getD p.2.toNat 0).testBit x = true:=fun x hx=>by
  unfold allP at hx;rw [Nat.testBit_or,Bool.or_eq_true] at hx;exact hx
 have sub : ∀ x,(allP b p).testBit x = true -> Sub (b.getD x 0) (allP b p):=by
  intro x hx y hy
  unfold allP;rw [Nat.testBit_or,Bool.or_eq_true]
  rcases ain x hx with hx | hx
  ·rw [h.same _ _ hx] at hy;exact .inl hy
  ·rw [h.same _ _ hx] at hy;exact .inr hy
 have alt : ∀ x,(allP b p).testBit x = true -> x < n:=fun x hx=>(ain x hx).elim (fun e=>(h.lt _ _ e).1) (fun e=>(h.lt _ _ e).1)
 have yes : ∀ x,(allP b p).testBit x = true -> (zC b p).getD x 0 = allP b p:=by
  intro x hx
  have:=alt x hx
  rw [yh b p (by omega),if_pos hx]
  apply yY;intro i;rw [Nat.testBit_or]
  cases hi : (b.getD x 0).testBit i
  ·rfl
  ·rw [sub x hx i hi];rfl
 have no : ∀ x,x < 9 -> (allP b p).testBit x = false -> (zC b p).getD x 0 = b.getD x 0:=fun x hx ha=>by
  rw [yh b p (by omega),if_neg (by rw [ha];simp)]
 have big : ∀ x,¬ x < 9 -> (zC b p).getD x 0 = 0:=fun x hx=>vP b p (by omega)
 refine ⟨fun i hi=>qx b p i i (h.self i hi),fun i j hij=>?_,fun i j hij=>?_⟩
 ·by_cases hj : j < 9
  ·cases ha : (allP b p).testBit j
   ·rw [no j hj ha] at hij ⊢
    have hl:=h.lt i j hij
    have hi : (allP b p).testBit i = false:=by
     cases hb' : (allP b p).testBit i
     ·rfl
     ·have h3:=sub i hb'
      rw [h.same i j hij] at h3
      have:=h3 j (h.self j hl.2)
      rw [ha] at this;cases this
    rw [no i (by omega) hi,h.same i j hij]
   ·rw [yes j ha] at hij ⊢
    exact yes i hij
  ·rw [big j hj,Nat.zero_testBit] at hij;cases hij
 ·by_cases hj : j < 9
  ·cases ha : (allP b p).testBit j
   ·rw [no j hj ha] at hij;exact h.lt i j hij
   ·rw [yes j ha] at hij;exact ⟨alt i hij,alt j ha⟩
  ·rw [big j hj,Nat.zero_testBit] at hij;cases hij
theorem Eqv.fold {n : Nat} (hn : n <= 9) : ∀ (ps : List (Int × Int)) (b : List Nat),(∀ p ∈ ps,p.1.toNat < n /\ p.2.toNat < n) -> b.length = 9 -> Eqv n b -> Eqv n (ps.foldl zC b)
 | [],_,_,_,h=>h
 | p :: ps,b,hp,hb,h=>by
   rw [List.foldl_cons]
   have:=hp p List.mem_cons_self
   exact Eqv.fold hn ps _ (fun q hq=>hp q (List.mem_cons_of_mem _ hq)) (by rw [jr];exact hb) (h.step hn hb this.1 this.2)
theorem Eqv.close {l : Ld} {n : Nat} (hn : n <= 9) (hp : ∀ p ∈ l.wth,p.1.toNat < n /\ p.2.toNat < n) : ∀ (k : Nat) (b : List Nat),b.length = 9 -> Eqv n b -> Eqv n (zU l k b)
 | 0,_,_,h=>h
 | k + 1,b,hb,h=>by
   show Eqv n (if zE l b = b then b else zU l k (zE l b))
   split
   ·exact h
   ·exact Eqv.close hn hp k _ (by rw [jA];exact hb) (Eqv.fold hn _ _ hp hb h)
def ndS (l : Ld) (i : Nat) : Nat:=(zf l).nd.getD i 0
theorem nd_eqv {l : Ld} (o : LdOk l) : Eqv l.sacks.length (zf l).nd:=
 Eqv.close o.n (fun p hp=>by have:=o.wp p hp;omega) 5000 _ (jw _) (Eqv.zero o.n)
theorem nd_cl {l : Ld} (o : LdOk l) (i : Nat) : Cl l (ndS l i):=by
 have E:=nd_eqv o
 intro p hp
 have b:=o.wp p hp
 have hn:=o.n
 have e:=nd_fix o p hp
 have k1:=j3 o (i:=p.1.toNat) (by omega)
 have k2:=j3 o (i:=p.2.toNat) (by omega)
 have g1 : (allP (zf l).nd p).testBit p.1.toNat = true:=by unfold allP;rw [Nat.testBit_or,k1];rfl
 have g2 : (allP (zf l).nd p).testBit p.2.toNat = true:=by unfold allP;rw [Nat.testBit_or,k2,Bool.or_true]
 have e1:=yh (zf l).nd p (i:=p.1.toNat) (by rw [zcT];omega)
 have e2:=yh (zf l).nd p (i:=p.2.toNat) (by rw [zcT];omega)
 rw [e,if_pos g1] at e1
 rw [e,if_pos g2] at e2
 have s1 : (ndS l i).testBit p.1.toNat = true -> (ndS l i).testBit p.2.toNat = true:=fun h=>by
  have:=E.same _ _ h
  show ((zf l).nd.getD i 0).testBit _ = true
  rw [<- this,e1,Nat.testBit_or,g2,Bool.or_true]
 have s2 : (ndS l i).testBit p.2.toNat = true -> (ndS l i).testBit p.1.toNat = true:=fun h=>by
  have:=E.same _ _ h
  show ((zf l).nd.getD i 0).testBit _ = true
  rw [<- this,e2,Nat.testBit_or,g1,Bool.or_true]
 cases h1 : (ndS l i).testBit p.1.toNat
 ·cases h2 : (ndS l i).testBit p.2.toNat
  ·rfl
  ·rw [s2 h2] at h1;cases h1
 ·rw [s1 h1]
theorem vv {l : Ld} (o : LdOk l) (i : Nat) : ndS l i < 2 ^ l.sacks.length:=by
 apply Nat.lt_pow_two_of_testBit
 intro j hj
 cases h : (ndS l i).testBit j
 ·rfl
 ·have:=(nd_eqv o).lt j i h;omega
def setN : List Bool -> Nat
 | []=>0
 | b :: bs=>2 * setN bs + b.toNat
theorem yI : ∀ (bs : List Bool) (k : Nat),(setN bs).testBit k = bs.getD k false
 | [],k=>by simp [setN]
 | b :: bs,0=>by
   unfold setN;rw [Nat.testBit_zero];cases b <;> simp <;> omega
 | b :: bs,k + 1=>by
   unfold setN;rw [Nat.testBit_succ,show (2 * setN bs + b.toNat) / 2 = setN bs by cases b <;> simp <;> omega,yI bs k];rfl
theorem zc6 : ∀ (bs : List Bool),setN bs < 2 ^ bs.length
 | []=>by simp [setN]
 | b :: bs=>by
   have:=zc6 bs
   unfold setN;rw [List.length_cons,Nat.pow_succ];cases b <;> simp <;> omega
def z8 (n s : Nat) : List Bool:=(List.range n).map fun k=>s.testBit k
theorem z5 (n s : Nat) : (z8 n s).length = n:=by simp [z8]
theorem jB {n s k : Nat} (hk : k < n) : (z8 n s).getD k false = s.testBit k:=by
 unfold z8;rw [List.getD_eq_getElem?_getD,List.getElem?_map,List.getElem?_range hk];rfl
theorem v3 {n s : Nat} (h : s < 2 ^ n) : setN (z8 n s) = s:=yY fun k=>by
 rw [yI]
 by_cases hk : k < n
 ·exact jB hk
 ·rw [List.getD_eq_getElem?_getD,List.getElem?_eq_none (by rw [z5];omega)]
  exact (Nat.testBit_lt_two_pow (Nat.lt_of_lt_of_le h (Nat.pow_le_pow_right (by omega) (by omega)))).symm
theorem zaQ {bs : List Bool} {n s : Nat} (hl : bs.length = n) (h : ∀ k,k < n -> bs.getD k false = s.testBit k) : bs = z8 n s:=
 y5 (d:=false) (by rw [z5,hl]) fun j hj=>by rw [h j (by omega),jB (by omega)]
structure gX (l : Ld) (i : Nat) (bs : List Bool) : Prop where
 n : bs.length = l.sacks.length
 me : bs.getD i false = true
 sub : ∀ k,bs.getD k false = true -> (ndS l i).testBit k = true
theorem gX.done {l : Ld} (o : LdOk l) {i : Nat} {bs : List Bool} (h : gX l i bs) (hi : i < l.sacks.length) (hc : ∀ p ∈ l.wth,bs.getD p.1.toNat false = bs.getD p.2.toNat false) : bs = z8 l.sacks.length (ndS l i):=by
 refine zaQ h.n fun k hk=>?_
 have cl : Cl l (setN bs):=fun p hp=>by rw [yI,yI];exact hc p hp
 have hl:=zax cl (i:=i) (by rw [yI];exact h.me)
 cases hb : bs.getD k false
 ·cases ht : (ndS l i).testBit k
  ·rfl
  ·have:=hl k ht;rw [yI,hb] at this;cases this
 ·exact (h.sub k hb).symm
theorem kh (xs : List Bool) (i j : Nat) (v : Bool) : (xs.set i v).getD j false = if i = j /\ i < xs.length then v else xs.getD j false:=zaV xs i j v false
theorem gX.both {l : Ld} (o : LdOk l) {i : Nat} {bs : List Bool} (h : gX l i bs) {p : Int × Int} (hp : p ∈ l.wth) (hne : bs.getD p.1.toNat false ≠ bs.getD p.2.toNat false) : gX l i ((bs.set p.1.toNat true).set p.2.toNat true):=by
 have hcl:=nd_cl o i p hp
 have hin : (ndS l i).testBit p.1.toNat = true /\ (ndS l i).testBit p.2.toNat = true:=by
  cases h1 : bs.getD p.1.toNat false
  ·cases h2 : bs.getD p.2.toNat false
   ·rw [h1,h2] at hne;exact absurd rfl hne
   ·have:=h.sub _ h2;exact ⟨by rw [hcl];exact this,this⟩
  ·have:=h.sub _ h1;exact ⟨this,by rw [<- hcl];exact this⟩
 refine ⟨by rw [List.length_set,List.length_set];exact h.n,?_,fun k hk=>?_⟩
 ·rw [kh,kh];split
  ·rfl
  ·split
   ·rfl
   ·exact h.me
 ·rw [kh,kh] at hk
  split at hk
  ·rename_i e;rw [<- e.1];exact hin.2
  ·split at hk
   ·rename_i e;rw [<- e.1];exact hin.1
   ·exact h.sub k hk
def cntF (bs : List Bool) : Nat:=bs.countP (fun b=>!b)
theorem zc8 : ∀ (bs : List Bool) (i : Nat),cntF (bs.set i true) <= cntF bs /\ (bs.getD i true = false -> cntF (bs.set i true) < cntF bs)
 | [],i=>by simp [cntF]
 | b :: bs,0=>by cases b <;> simp [cntF]
 | b :: bs,i + 1=>by
   have:=zc8 bs i
   unfold cntF at this ⊢
   rw [List.set_cons_succ,List.countP_cons,List.countP_cons,List.getD_cons_succ]
   exact ⟨by omega,fun h=>by have:=this.2 h;omega⟩
theorem cnt_both {bs : List Bool} {a b : Nat} (ha : a < bs.length) (hb : b < bs.length) (hne : bs.getD a false ≠ bs.getD b false) : cntF ((bs.set a true).set b true) < cntF bs:=by
 have h1:=zc8 bs a
 have h2:=zc8 (bs.set a true) b
 have e : ∀ (xs : List Bool) i,i < xs.length -> xs.getD i true = xs.getD i false:=fun xs i hi=>by
  rw [List.getD_eq_getElem?_getD,List.getD_eq_getElem?_getD,List.getElem?_eq_getElem hi];rfl
 cases hx : bs.getD a false
 ·have:=h1.2 (by rw [e _ _ ha,hx]);omega
 ·cases hy : bs.getD b false
  ·have:=h2.2 (by
    rw [e _ _ (by rw [List.length_set];exact hb),kh]
    split
    ·rename_i hh;rw [hh.1,hy] at hx;cases hx
    ·exact hy)
   omega
  ·rw [hx,hy] at hne;exact absurd rfl hne
end GA
end
section
namespace GA
open Go Go.RowKit Go.Proofs
abbrev bools (xs : List Bool) : List AV:=xs.map .bool
theorem jI {n : Nat} (xs : List Bool) : lowL n (bools xs) = true:=ja (fun _=>rfl) xs
theorem wideBo (xs : List Bool) : wide 1 (bools xs) = true:=wC (f:=.bool) (n:=1) (fun _=>rfl) (fun _=>rfl) xs
theorem XPut.bools {els : List AV} {n e : Nat} {k : List AV -> Prop} (xs : List Bool) (x : Bool) (hE : els = GA.bools xs) (h1 : n = xs.length) (h2 : e < n) (h : k (GA.bools (xs.set e x))) : XPut els n e (.bool x) k:=by
 subst hE;exact XPut.map (f:=.bool) x rfl h1 h2 h
theorem jY (l : Ld) (o : LdOk l) (i : Nat) (hi : i < l.sacks.length) : Comp Tryz.prog 48 [ldA l,natA i] (.int .i64 (zO l (l.sacks.getD i default))):=by
 have hs:=o.sk _ (zu (d:=default) hi)
 have h2:=o.s1
 have h3:=o.s2
 have e1 : 0 <= (l.sacks.getD i default).m * l.shrink:=Int.mul_nonneg (by omega) h2
 have e2 : (l.sacks.getD i default).m * l.shrink <= 100 * 100:=Int.mul_le_mul hs.2.1 (by omega) h2 (by omega)
 have e3 : ((l.sacks.getD i default).m * l.shrink).tdiv 100 = ((l.sacks.getD i default).m * l.shrink) / 100:=Int.tdiv_eq_ediv_of_nonneg e1
 refine Comp.body (T:=tab) (res:=[.tmp 4]) zb [] Tryz.func48 rfl (by kernel_rfl) Tryz.ntmps48 rfl (by simp only [List.length_cons,List.length_nil];decide) (by simp only [lowL,AV.low,ldL];rfl) ?_;conv=>whnf
 repeat' first|((with_reducible refine XInt.i64 (by omega) (by omega) ?_);conv=>whnf)|((with_reducible refine zj.mk ?_ ?_);(first | omega | rfl | decide|exact ⟨rfl,by decide,rfl⟩|exact zz _|exact zp _|exact zq _|(unfold Room;constructor <;> ((try simp) <;> omega))|exact ⟨rfl,by simp only [List.length_map],by unfold Room;constructor <;> ((try simp) <;> omega)⟩|exact ⟨by omega,by omega,by unfold Room;constructor <;> ((try simp) <;> omega)⟩);conv=>whnf)|(((with_reducible refine XIx.nat ?_ ?_ ?_);omega;(intro _;rfl));conv=>whnf)|fail
 refine XOut.int ?_
 rw [e3];rfl
set_option maxHeartbeats 1000000 in
theorem fi (l : Ld) (o : LdOk l) (i : Nat) (hi : i < l.sacks.length) : Comp Tryz.prog 49 [ldA l,natA i] (.sl false (bools (z8 l.sacks.length (ndS l i)))):=by
 have hn:=o.n
 have e1 : ((l.sacks.map skA).length : Int) = l.sacks.length:=by rw [List.length_map]
 have e3 : ((l.wth.map prA).length : Int) = l.wth.length:=by rw [List.length_map]
 have hnw:=o.nw
 refine Comp.body (T:=tab) (res:=[.tmp 4]) zb [] Tryz.func49 rfl (by kernel_rfl) Tryz.ntmps49 rfl (by simp only [List.length_cons,List.length_nil];decide) (by simp only [lowL,AV.low,ldL];rfl) ?_;conv=>whnf
 repeat' first|((with_reducible refine zj.mk ?_ ?_);(first | omega | rfl | decide|exact ⟨rfl,by decide,rfl⟩|exact zz _|exact zp _|exact zq _|(unfold Room;constructor <;> ((try simp) <;> omega))|exact ⟨rfl,by simp only [List.length_map],by unfold Room;constructor <;> ((try simp) <;> omega)⟩|exact ⟨by omega,by omega,by unfold Room;constructor <;> ((try simp) <;> omega)⟩);conv=>whnf)|((first|(refine zj.mk ⟨List.length_replicate,rfl,by omega,by omega⟩ ?_)|(refine XPut.mk List.length_replicate.symm (by omega) ?_));conv=>whnf)|fail
 have hB0 : gX l i ((List.replicate l.sacks.length false).set i true):=by
  refine ⟨by simp,?_,fun k hk=>?_⟩
  ·rw [kh,if_pos ⟨rfl,by simpa using hi⟩]
  ·rw [kh] at hk
   split at hk
   ·rename_i e;rw [<- e.1];exact j3 o hi
   ·rw [List.getD_eq_getElem?_getD,List.getElem?_replicate] at hk;split at hk <;> simp at hk
 refine Walk.loop zb [] (fun g : List Bool × Bool=>gX l i g.1 /\ (g.2 = false -> ∀ p ∈ l.wth,g.1.getD p.1.toNat false = g.1.getD p.2.toNat false)) (fun g=>[(2,.pim (ldC l)),(4,.sl true []),(5,.gr 0 l.sacks.length),(6,.bool g.2)])
  (fun g=>[.grow 4 false (bools g.1)]) (fun g=>2 * cntF g.1 + g.2.toNat) ((List.replicate l.sacks.length false).set i true,true) ⟨hB0,fun h=>by cases h⟩ ?_ ⟨rfl,rfl,?_,rfl,trivial⟩ ?_
 ·show [Blk.grow 4 false (bools ((List.replicate l.sacks.length false).set i true))] = [Blk.grow 4 false ((List.replicate (((l.sacks.map skA).length : Int)).toNat (AV.bool false)).set i (.bool true))]
  rw [e1];simp [bools,List.map_set]
 ·exact congrArg (fun n=>some (AV.gr 0 n)) (by rw [e1];rfl)
 rintro ⟨bs,g⟩ ⟨hB,hg⟩
 dsimp only at hB hg ⊢
 have hbl:=hB.n
 cases g with
 | false =>
   conv=>whnf
   repeat' first|((with_reducible apply XBr.ff);conv=>whnf)|fail
   rw [hB.done o hi (hg rfl)]
   exact ⟨Froz.grow rfl (by rw [List.length_map,z5]) (jI _)⟩
 | true =>
   clear hg
   conv=>whnf
   repeat' first|((with_reducible apply XBr.tt);conv=>whnf)|fail
   refine Walk.loop zb [] (fun q : Nat × List Bool × Bool=>q.1 <= l.wth.length /\ gX l i q.2.1 /\ (q.2.2 = false -> q.2.1 = bs /\ ∀ j,j < q.1 -> q.2.1.getD (l.wth.getD j default).1.toNat false = q.2.1.getD (l.wth.getD j default).2.toNat false) /\ (q.2.2 = true -> cntF q.2.1 < cntF bs))
    (fun q=>[(2,.pim (ldC l)),(4,.sl true []),(5,.gr 0 l.sacks.length),(6,.bool q.2.2),(7,natA q.1)]) (fun q=>[.grow 4 false (bools q.2.1)]) (fun q=>l.wth.length - q.1) (0,bs,false) ⟨by omega,hB,fun _=>⟨rfl,fun j hj=>by omega⟩,fun h=>by cases h⟩ rfl ⟨rfl,rfl,rfl,rfl,rfl,trivial⟩ ?_
   rintro ⟨k,cs,g⟩ ⟨hk,hC,hf,ht⟩
   dsimp only at hk hC hf ht ⊢
   have hcl:=hC.n
   have hp : k < l.wth.length -> l.wth.getD k default ∈ l.wth:=fun h=>zu h
   have hpr : k < l.wth.length -> 0 <= (l.wth.getD k default).1 /\ (l.wth.getD k default).1 < l.sacks.length /\ 0 <= (l.wth.getD k default).2 /\ (l.wth.getD k default).2 < l.sacks.length /\ (l.wth.getD k default).1 ≠ (l.wth.getD k default).2:=fun h=>o.wp _ (hp h)
   conv=>whnf
   repeat' first|((with_reducible apply XBr.dec) <;> (intro h;first|(exfalso;omega)|((try simp only [List.length_map] at h);first|(exfalso;omega)|(conv=>whnf))))|fail
   ·have hpq:=hpr (by omega)
    have hpm:=hp (by omega)
    clear hpr hp
    apply Walk.drawX zb zk [] [] (hsK _) [_,_,_,_,_,_,_,_,_,_,_,_,_,_] (by kernel_rfl) rfl
    ·skip
     repeat' first|(((with_reducible refine XIx.nat ?_ ?_ ?_);omega;(intro _;rfl));conv=>whnf)|(with_reducible apply XAnd.mk)|((first|(with_reducible apply Chk.go)|(with_reducible apply ChkA.go));conv=>whnf)|(exact zg.mk rfl rfl)|(with_reducible exact trivial)|((refine XArr.mk (by decide) (by decide) ?_);conv=>whnf)|fail
    ·skip
     repeat' first|(with_reducible apply XAnd.mk)|((first|(with_reducible apply ChkF.go)|(with_reducible apply ChkB.go));conv=>whnf)|(with_reducible exact trivial)|fail
    conv=>whnf
    apply Walk.drawX zb zk [] [] (hsK _) [_,_,_,_,_,_,_,_,.bool (cs.getD (l.wth.getD k default).1.toNat default != cs.getD (l.wth.getD k default).2.toNat default)] (by kernel_rfl) rfl
    ·skip
     repeat' first|(with_reducible apply XAnd.mk)|((first|(with_reducible apply Chk.go)|(with_reducible apply ChkA.go));conv=>whnf)|(exact zg.mk rfl rfl)|(with_reducible exact trivial)|((first|(refine zj.mk ⟨by rw [List.length_map];exact hcl,rfl,by omega,by omega⟩ ?_)|(refine XGet.map hcl.symm (by omega) ?_));conv=>whnf)|fail
    ·skip
     repeat' first|(with_reducible apply XAnd.mk)|((first|(with_reducible apply ChkF.go)|(with_reducible apply ChkB.go));conv=>whnf)|(with_reducible exact trivial)|fail
    conv=>whnf
    repeat' first|((first|(with_reducible refine XInt.i64 (by omega) (by omega) ?_)|(refine zj.mk ⟨by rw [List.length_map];first|exact hcl|(rw [List.length_set];exact hcl),rfl,by omega,by omega⟩ ?_)|(refine XPut.bools cs _ rfl hcl.symm (by omega) ?_)|(refine XPut.bools (cs.set (l.wth.getD k default).1.toNat true) _ rfl (by rw [List.length_set];exact hcl.symm) (by omega) ?_));conv=>whnf)|((with_reducible apply XBr.mk') <;> (intro h;conv=>whnf))|fail
    ·have hne : cs.getD (l.wth.getD k default).1.toNat false ≠ cs.getD (l.wth.getD k default).2.toNat false:=by rw [<- bne_iff_ne];exact h
     have hlt:=cnt_both (a:=(l.wth.getD k default).1.toNat) (b:=(l.wth.getD k default).2.toNat) (by omega) (by omega) hne
     refine zh.go (k + 1,(cs.set (l.wth.getD k default).1.toNat true).set (l.wth.getD k default).2.toNat true,true) ⟨by omega,hC.both o hpm hne,nofun,fun _=>?_⟩ (by omega) rfl ⟨rfl,rfl,rfl,rfl,rfl,trivial⟩
     cases g with
     | false=>rw [(hf rfl).1] at hlt ⊢;exact hlt
     | true=>have:=ht rfl;dsimp only;omega
    ·have he : cs.getD (l.wth.getD k default).1.toNat false = cs.getD (l.wth.getD k default).2.toNat false:=by rw [<- bne_eq_false_iff_eq];exact h
     refine zh.go (k + 1,cs,g) ⟨by omega,hC,fun hg=>⟨(hf hg).1,fun j hj=>?_⟩,ht⟩ (by omega) rfl ⟨rfl,rfl,rfl,rfl,rfl,trivial⟩
     by_cases e : j = k
     ·subst e;exact he
     ·exact (hf hg).2 j (by omega)
   ·refine zh.go (cs,g) ⟨hC,fun hg p hp=>?_⟩ ?_ rfl ⟨rfl,rfl,rfl,rfl,trivial⟩
    ·obtain ⟨j,hj,rfl⟩:=List.mem_iff_getElem.1 hp
     have:=(hf hg).2 j (by omega)
     rwa [List.getD_eq_getElem?_getD (l:=l.wth),List.getElem?_eq_getElem hj] at this
    ·cases g with
     | false=>rw [(hf rfl).1];dsimp only;simp
     | true=>have:=ht rfl;dsimp only;simp;omega
end GA
end
section
namespace GA
open Go Go.RowKit Go.Proofs
def lsK (bs : List Bool) (k : Nat) : List Int:=((List.range k).filter fun j=>bs.getD j false).map fun j : Nat=>(j : Int)
theorem lsK_next (bs : List Bool) (k : Nat) : lsK bs (k + 1) = if bs.getD k false = true then lsK bs k ++ [(k : Int)] else lsK bs k:=by
 unfold lsK
 rw [List.range_succ,List.filter_append]
 by_cases h : bs.getD k false = true
 ·rw [if_pos h,List.filter_cons_of_pos (p:=fun j=>bs.getD j false) h,List.filter_nil,List.map_append];rfl
 ·rw [if_neg h,List.filter_cons_of_neg (p:=fun j=>bs.getD j false) h,List.filter_nil,List.append_nil]
theorem lsK_len (bs : List Bool) (k : Nat) : (lsK bs k).length <= k:=by
 unfold lsK
 rw [List.length_map]
 have:=List.length_filter_le (fun j=>bs.getD j false) (List.range k)
 rwa [List.length_range] at this
def lsN (bs : List Bool) : List Int:=lsK bs bs.length
theorem gy (nl : Bool) (bs : List Bool) (hb : bs.length <= 1000) : Comp Tryz.prog 50 [.sl nl (bools bs)] (slA (lsN bs)):=by
 refine Comp.body (T:=tab) (res:=[.tmp 2]) zb [] Tryz.func50 rfl (by kernel_rfl) Tryz.ntmps50 rfl (by simp only [List.length_cons,List.length_nil];decide) (by simp only [lowL,AV.low,jI];rfl) ?_;conv=>whnf
 skip
 refine Walk.nilgr 3 3 rfl ?_
 refine Walk.loop zb [] (fun k : Nat=>k <= bs.length) (fun k=>[(0,.sl nl (bools bs)),(2,.sl true []),(3,.gr 0 (lsK bs k).length),(4,natA k)]) (fun k=>[.grow 3 (lsK bs k).isEmpty (ints (lsK bs k))]) (fun k=>bs.length - k) 0 (Nat.zero_le _) rfl ⟨rfl,rfl,rfl,rfl,trivial⟩ ?_
 intro k hk
 have hl:=lsK_len bs k
 have hnx:=lsK_next bs k
 have hall : k = bs.length -> lsK bs k = lsN bs:=fun h=>by rw [h];rfl
 generalize lsK bs k = ls at hl hnx hall
 conv=>whnf
 repeat' first|((with_reducible apply XBr.dec) <;> (intro h;first|(exfalso;omega)|((try simp only [List.length_map] at h);first|(exfalso;omega)|(conv=>whnf))))|((with_reducible refine XInt.i64 (by omega) (by omega) ?_);conv=>whnf)|((with_reducible refine zj.mk ?_ ?_);(first | omega | rfl | decide|exact ⟨rfl,by decide,rfl⟩|exact zz _|exact zp _|exact zq _|(unfold Room;constructor <;> ((try simp) <;> omega))|exact ⟨rfl,by simp only [List.length_map],by unfold Room;constructor <;> ((try simp) <;> omega)⟩|exact ⟨by omega,by omega,by unfold Room;constructor <;> ((try simp) <;> omega)⟩);conv=>whnf)|(((with_reducible refine XIx.nat ?_ ?_ ?_);omega;(intro _;rfl));conv=>whnf)|((with_reducible apply XBr.mk') <;> (intro h;conv=>whnf))|fail
 ·refine zh.go (k + 1) (by omega) (by omega) ?_ ⟨rfl,rfl,?_,rfl,trivial⟩
  ·rw [hnx,if_pos (show bs.getD k false = true from h)];simp only [List.map_append,ya];rfl
  ·rw [hnx,if_pos (show bs.getD k false = true from h)];simp only [List.length_append];rfl
 ·refine zh.go (k + 1) (by omega) (by omega) ?_ ⟨rfl,rfl,?_,rfl,trivial⟩
  ·rw [hnx,if_neg (by rw [show bs.getD k false = false from h];simp)]
  ·rw [hnx,if_neg (by rw [show bs.getD k false = false from h];simp)];rfl
 ·rw [<- hall (by omega)]
  exact ⟨by unfold slA;exact Froz.grow rfl (by rw [List.length_map]) (lowI _)⟩
theorem zd0 : ∀ (f i s : Nat),s < 2 ^ f -> ym f i s = ((List.range f).filter fun j=>s.testBit j).map fun j=>((i + j : Nat) : Int)
 | 0,i,s,h=>rfl
 | f + 1,i,s,h=>by
   have ih:=zd0 f (i + 1) (s / 2) (by rw [Nat.pow_succ] at h;omega)
   have e : ym (f + 1) i s = if s = 0 then [] else if s % 2 = 1 then (i : Int) :: ym f (i + 1) (s / 2) else ym f (i + 1) (s / 2):=rfl
   have e2 : ((List.range (f + 1)).filter fun j=>s.testBit j).map (fun j=>((i + j : Nat) : Int)) = (if s % 2 = 1 then [(i : Int)] else []) ++ ((List.range f).filter fun j=>(s / 2).testBit j).map fun j=>((i + 1 + j : Nat) : Int):=by
    rw [List.range_succ_eq_map,List.filter_cons,List.filter_map]
    have h0 : s.testBit 0 = decide (s % 2 = 1):=Nat.testBit_zero s
    have hf : ((fun j=>s.testBit j) ∘ Nat.succ) = fun j=>(s / 2).testBit j:=by funext j;exact Nat.testBit_succ ..
    rw [hf,h0]
    by_cases hs : s % 2 = 1
    ·rw [if_pos hs,if_pos (by simp [hs]),List.map_cons,List.map_map]
     show _ :: _ = _ :: _
     congr 1
     apply List.map_congr_left;intro j _;show ((i + (j + 1) : Nat) : Int) = _;congr 1;omega
    ·rw [if_neg hs,if_neg (by simp [hs]),List.map_map]
     show _ = _
     rw [List.nil_append]
     apply List.map_congr_left;intro j _;show ((i + (j + 1) : Nat) : Int) = _;congr 1;omega
   rw [e,e2]
   by_cases h0 : s = 0
   ·subst h0
    rw [if_pos rfl]
    have : ((List.range f).filter fun j=>(0 / 2).testBit j) = []:=by rw [List.filter_eq_nil_iff];intro j _;simp
    rw [this];rfl
   ·rw [if_neg h0,ih]
    by_cases hs : s % 2 = 1
    ·rw [if_pos hs,if_pos hs];rfl
    ·rw [if_neg hs,if_neg hs];rfl
theorem zc2 {n s : Nat} (hn : n <= 9) (h : s < 2 ^ n) : lsN (z8 n s) = bits s:=by
 have hp:=pow9 hn
 have e : bits s = ((List.range 62).filter fun j=>s.testBit j).map fun j=>((0 + j : Nat) : Int):=zd0 62 0 s (by omega)
 rw [e]
 have hr : List.range 62 = List.range n ++ (List.range (62 - n)).map (n + ·):=by rw [<- List.range_add];congr 1;omega
 rw [hr,List.filter_append]
 have h2 : ((List.range (62 - n)).map (n + ·)).filter (fun j=>s.testBit j) = []:=by
  rw [List.filter_eq_nil_iff]
  intro j hj
  obtain ⟨k,_,rfl⟩:=List.mem_map.1 hj
  rw [Nat.testBit_lt_two_pow (Nat.lt_of_lt_of_le h (Nat.pow_le_pow_right (by omega) (by omega)))];simp
 rw [h2,List.append_nil]
 unfold lsN lsK
 rw [z5]
 have h3 : ((List.range n).filter fun j=>(z8 n s).getD j false) = (List.range n).filter fun j=>s.testBit j:=by
  apply List.filter_congr
  intro j hj
  exact jB (List.mem_range.1 hj)
 rw [h3]
 apply List.map_congr_left;intro j _;congr 1;omega
theorem zcf : ∀ s : Fin 512,s.val ≠ 0 -> (bits s.val).getD 0 0 = ((Nat.log2 (lowb s.val) : Nat) : Int) /\ lowb s.val = 2 ^ Nat.log2 (lowb s.val) /\ bits s.val ≠ []:=by decide +kernel
theorem first_iff {s i : Nat} (h0 : s ≠ 0) (h : s < 512) : (bits s).getD 0 0 = (i : Int) ↔ lowb s = 2 ^ i:=by
 obtain ⟨h1,h2,_⟩:=zcf ⟨s,h⟩ h0
 dsimp only at h1 h2
 rw [h1]
 constructor
 ·intro e;have : Nat.log2 (lowb s) = i:=by omega
  rw [<- this];exact h2
 ·intro e;rw [e,Nat.log2_two_pow]
end GA
end
section
namespace GA
open Go Go.RowKit Go.Proofs
theorem zce : ∀ (ws : List Nat) (k s : Nat),k < ws.length -> sumW (ws.take (k + 1)) s = sumW (ws.take k) s + if s.testBit k = true then ws.getD k 0 else 0
 | [],_,_,h=>by simp at h
 | w :: ws,0,s,h=>by
   have e : sumW ((w :: ws).take 1) s = (if s % 2 = 1 then w else 0) + sumW [] (s / 2):=rfl
   have e2 : sumW ((w :: ws).take 0) s = 0:=rfl
   rw [e,e2,Nat.testBit_zero]
   show _ + 0 = 0 + _
   by_cases hs : s % 2 = 1
   ·rw [if_pos hs,if_pos (by simp [hs])];simp
   ·rw [if_neg hs,if_neg (by simp [hs])]
 | w :: ws,k + 1,s,h=>by
   have ih:=zce ws k (s / 2) (by simpa using h)
   have e : sumW ((w :: ws).take (k + 1 + 1)) s = (if s % 2 = 1 then w else 0) + sumW (ws.take (k + 1)) (s / 2):=rfl
   have e2 : sumW ((w :: ws).take (k + 1)) s = (if s % 2 = 1 then w else 0) + sumW (ws.take k) (s / 2):=rfl
   rw [e,e2,ih,Nat.testBit_succ,List.getD_cons_succ];omega
theorem zec {l : Ld} (o : LdOk l) {s : Nat} (h : s < 2 ^ l.sacks.length) (hn : ¬ RightP l s) : zn (zf l) s = false:=by
 cases e : zn (zf l) s
 ·rfl
 ·exact absurd ((gP o h).1 e) hn
set_option maxHeartbeats 1000000 in
theorem wQ (l : Ld) (o : LdOk l) (nl : Bool) (bs : List Bool) (hb : bs.length = l.sacks.length) : Comp Tryz.prog 51 [ldA l,.sl nl (bools bs)] (.bool (zn (zf l) (setN bs))):=by
 have hn:=o.n
 have ha:=o.na
 have e1 : ((bools bs).length : Int) = l.sacks.length:=by rw [List.length_map,hb]
 have e2 : ((l.apart.map prA).length : Int) = l.apart.length:=by rw [List.length_map]
 have hws:=zdp o
 have hwl : (wts l).length = l.sacks.length:=List.length_map _
 have hbit:=yI bs
 have hSl : setN bs < 2 ^ l.sacks.length:=by rw [<- hb];exact zc6 bs
 generalize hS : setN bs = S at hbit hSl
 refine Comp.body (T:=tab) (res:=[.tmp 4]) zb [] Tryz.func51 rfl (by kernel_rfl) Tryz.ntmps51 rfl (by simp only [List.length_cons,List.length_nil];decide) (by simp only [lowL,AV.low,ldL,jI];rfl) ?_;conv=>whnf
 skip
 refine Walk.loop zb [] (fun k : Nat=>k <= l.sacks.length /\ ∀ j,j < k -> bs.getD j false = true -> Sub (ndS l j) S) (fun k=>[(1,.sl nl (bools bs)),(2,.pim (ldC l)),(5,natA (sumW ((wts l).take k) S)),(6,natA k)]) (fun _=>[]) (fun k=>l.sacks.length - k) 0 ⟨by omega,by omega⟩ rfl ⟨rfl,rfl,rfl,rfl,trivial⟩ ?_
 rintro k ⟨hk,hks⟩
 have sT:=fun h=>zce (wts l) k S h
 have sB : sumW ((wts l).take k) S <= 900:=by
  have:=qE ((wts l).take k) S (fun w hw=>hws w (List.mem_of_mem_take hw))
  have h2 : ((wts l).take k).length <= 9:=by rw [List.length_take];omega
  omega
 have sA : k = l.sacks.length -> sumW ((wts l).take k) S = sumW (wts l) S:=fun h=>by rw [List.take_of_length_le (by omega)]
 generalize sumW ((wts l).take k) S = sm at sT sB sA
 conv=>whnf
 repeat' first|(with_reducible apply XBr.not)|((with_reducible apply XBr.dec) <;> (intro h;first|(exfalso;omega)|((try simp only [List.length_map] at h);first|(exfalso;omega)|(conv=>whnf))))|((first|(with_reducible refine XInt.i64 (by omega) (by omega) ?_)|((with_reducible refine XIx.nat ?_ ?_ ?_);omega;(intro _;rfl)));conv=>whnf)|((with_reducible apply XBr.mk') <;> (intro h;conv=>whnf))|fail
 ·have hw:=jY l o k (by omega)
  have hB:=fi l o k (by omega)
  have hwt:=vS o (zu (d:=default) (show k < l.sacks.length by omega))
  have hwg:=wts_get l (show k < l.sacks.length by omega)
  rw [hwg] at sT
  rw [<- hwt.1] at hw
  have hbk : bs.getD k false = true:=h
  have hsn : sumW ((wts l).take (k + 1)) S = sm + wt l (l.sacks.getD k default):=by
   rw [sT (by omega),if_pos (by rw [hbit];exact hbk)]
  generalize wt l (l.sacks.getD k default) = w at hw hwt hsn
  have hnd:=vv o k
  have hng:=fun j (hj : j < l.sacks.length)=>jB (s:=ndS l k) hj
  have hnl:=z5 l.sacks.length (ndS l k)
  generalize z8 l.sacks.length (ndS l k) = ns at hB hng hnl
  repeat' first|((first|(with_reducible refine XInt.i64 (by omega) (by omega) ?_)|(refine za.ret hw ?_)|(refine za.ret hB ?_));conv=>whnf)|fail
  refine Walk.loop zb [] (fun q : Nat=>q <= l.sacks.length /\ ∀ j,j < q -> ns.getD j false = true -> bs.getD j false = true) (fun q=>[(1,.sl nl (bools bs)),(2,.pim (ldC l)),(5,natA (sm + w)),(6,natA k),(7,.sl false (bools ns)),(8,natA q)]) (fun _=>[]) (fun q=>l.sacks.length - q) 0 ⟨by omega,by omega⟩ rfl ⟨rfl,rfl,rfl,rfl,rfl,rfl,trivial⟩ ?_
  rintro q ⟨hq,hqs⟩
  have e4 : ((bools ns).length : Int) = l.sacks.length:=by rw [List.length_map,hnl]
  conv=>whnf
  repeat' first|((first|(with_reducible apply XBr.tt)|(with_reducible apply XBr.ff));conv=>whnf)|(with_reducible apply XBr.not)|((with_reducible apply XBr.dec) <;> (intro h;first|(exfalso;omega)|((try simp only [List.length_map] at h);first|(exfalso;omega)|(conv=>whnf))))|((first|(with_reducible refine XInt.i64 (by omega) (by omega) ?_)|((with_reducible refine XIx.nat ?_ ?_ ?_);omega;(intro _;rfl)));conv=>whnf)|((with_reducible apply XBr.mk') <;> (intro h;conv=>whnf))|fail
  ·refine zh.go (q + 1) ⟨by omega,fun j hj hnj=>?_⟩ (by omega) rfl ⟨rfl,rfl,rfl,rfl,rfl,rfl,trivial⟩
   by_cases e : j = q
   ·subst e;exact h
   ·exact hqs j (by omega) hnj
  ·refine XOut.bool (zec o hSl fun hr=>?_).symm
   have hq1 : ns.getD q false = true:=by assumption
   have hq2 : bs.getD q false = false:=h
   have:=zax hr.wp (i:=k) (by rw [hbit];exact hbk) q (by rw [<- ndS,<- hng q (by omega)];exact hq1)
   rw [hbit,hq2] at this;cases this
  ·refine zh.go (q + 1) ⟨by omega,fun j hj hnj=>?_⟩ (by omega) rfl ⟨rfl,rfl,rfl,rfl,rfl,rfl,trivial⟩
   by_cases e : j = q
   ·subst e;rw [show ns.getD j false = false from h] at hnj;cases hnj
   ·exact hqs j (by omega) hnj
  ·refine zh.go (k + 1) ⟨by omega,fun j hj hbj=>?_⟩ (by omega) rfl ⟨rfl,rfl,?_,rfl,trivial⟩
   ·by_cases e : j = k
    ·subst e
     intro x hx
     have hxl:=bit_lt hnd hx
     rw [hbit]
     exact hqs x (by omega) (by rw [hng x hxl];exact hx)
    ·exact hks j (by omega) hbj
   ·rw [hsn];rfl
 ·refine zh.go (k + 1) ⟨by omega,fun j hj hbj=>?_⟩ (by omega) rfl ⟨rfl,rfl,?_,rfl,trivial⟩
  ·by_cases e : j = k
   ·subst e;rw [show bs.getD j false = false from h] at hbj;cases hbj
   ·exact hks j (by omega) hbj
  ·rw [sT (by omega),if_neg (by rw [hbit,show bs.getD k false = false from h];simp)];rfl
 have hcl : Cl l S:=by
  intro p hp
  have b:=o.wp p hp
  have c1 : S.testBit p.1.toNat = true -> S.testBit p.2.toNat = true:=fun h1=>by
   refine hks p.1.toNat (by omega) (by rw [<- hbit];exact h1) _ ?_
   rw [<- nd_cl o _ p hp];exact j3 o (by omega)
  have c2 : S.testBit p.2.toNat = true -> S.testBit p.1.toNat = true:=fun h1=>by
   refine hks p.2.toNat (by omega) (by rw [<- hbit];exact h1) _ ?_
   rw [nd_cl o _ p hp];exact j3 o (by omega)
  cases h1 : S.testBit p.1.toNat
  ·cases h2 : S.testBit p.2.toNat
   ·rfl
   ·rw [c2 h2] at h1;cases h1
  ·rw [c1 h1]
 obtain rfl : k = l.sacks.length:=by omega
 have hsm:=sA rfl
 clear sT sA hks
 refine Walk.loop zb [] (fun j : Nat=>j <= l.apart.length /\ ∀ i,i < j -> ¬ (S.testBit (l.apart.getD i default).1.toNat = true /\ S.testBit (l.apart.getD i default).2.toNat = true)) (fun j=>[(1,.sl nl (bools bs)),(2,.pim (ldC l)),(5,natA sm),(9,natA j)]) (fun _=>[]) (fun j=>l.apart.length - j) 0 ⟨by omega,by omega⟩ rfl ⟨rfl,rfl,rfl,rfl,trivial⟩ ?_
 rintro j ⟨hj,hjs⟩
 have hap : j < l.apart.length -> l.apart.getD j default ∈ l.apart:=fun h=>zu h
 have hapr : j < l.apart.length -> 0 <= (l.apart.getD j default).1 /\ (l.apart.getD j default).1 < l.sacks.length /\ 0 <= (l.apart.getD j default).2 /\ (l.apart.getD j default).2 < l.sacks.length /\ (l.apart.getD j default).1 ≠ (l.apart.getD j default).2:=fun h=>o.ap _ (hap h)
 conv=>whnf
 repeat' first|((first|(with_reducible apply XBr.tt)|(with_reducible apply XBr.ff));conv=>whnf)|((with_reducible apply XBr.dec) <;> (intro h;first|(exfalso;omega)|((try simp only [List.length_map] at h);first|(exfalso;omega)|(conv=>whnf))))|((first|(with_reducible refine XInt.i64 (by omega) (by omega) ?_)|((with_reducible refine XIx.nat ?_ ?_ ?_);omega;(intro _;rfl))|((with_reducible refine XIx.map ?_ ?_ ?_ ?_);omega;omega;(intro _;rfl))|(refine XArr.mk (by decide) (by decide) ?_));conv=>whnf)|((with_reducible apply XBr.mk') <;> (intro h;conv=>whnf))|fail
 ·refine XOut.bool (zec o hSl fun hr=>?_).symm
  have h1 : bs.getD (l.apart.getD j default).1.toNat false = true:=by assumption
  have h2 : bs.getD (l.apart.getD j default).2.toNat false = true:=h
  exact hr.ap _ (hap (by omega)) ⟨by rw [hbit];exact h1,by rw [hbit];exact h2⟩
 ·refine zh.go (j + 1) ⟨by omega,fun i hi hh=>?_⟩ (by omega) rfl ⟨rfl,rfl,rfl,rfl,trivial⟩
  by_cases e : i = j
  ·subst e
   have h2 : bs.getD (l.apart.getD i default).2.toNat false = false:=h
   rw [hbit,hbit,h2] at hh;cases hh.2
  ·exact hjs i (by omega) hh
 ·refine zh.go (j + 1) ⟨by omega,fun i hi hh=>?_⟩ (by omega) rfl ⟨rfl,rfl,rfl,rfl,trivial⟩
  by_cases e : i = j
  ·subst e
   have h2 : bs.getD (l.apart.getD i default).1.toNat false = false:=h
   rw [hbit,hbit,h2] at hh;cases hh.1
  ·exact hjs i (by omega) hh
 ·refine XOut.bool ?_
  rw [Bool.eq_iff_iff,gP o hSl,decide_eq_true_eq]
  constructor
  ·intro hw
   refine ⟨by rw [<- hsm];exact hw,hcl,fun p hp=>?_⟩
   obtain ⟨i,hi,rfl⟩:=List.mem_iff_getElem.1 hp
   have:=hjs i (by omega)
   rwa [List.getD_eq_getElem?_getD (l:=l.apart),List.getElem?_eq_getElem hi] at this
  ·intro hr;have:=hr.w;rw [<- hsm] at this;exact this
end GA
end
section
namespace GA
open Go Go.RowKit Go.Proofs
def isF (l : Ld) (i : Nat) : Bool:=lowb (ndS l i) == 2 ^ i
def bunK (l : Ld) : Nat -> List (List Int)
 | 0=>[]
 | k + 1=>if isF l k = true then bunK l k ++ [bits (ndS l k)] else bunK l k
def stuK (l : Ld) : Nat -> List Int
 | 0=>[]
 | k + 1=>if (isF l k && !zn (zf l) (ndS l k)) = true then stuK l k ++ [(k : Int)] else stuK l k
theorem qQ (l : Ld) : ∀ k,(bunK l k).length <= k
 | 0=>Nat.le_refl _
 | k + 1=>by have:=qQ l k;unfold bunK;split <;> simp <;> omega
theorem qH (l : Ld) : ∀ k,(stuK l k).length <= k
 | 0=>Nat.le_refl _
 | k + 1=>by have:=qH l k;unfold stuK;split <;> simp <;> omega
abbrev wj (xs : List (List Int)) : List AV:=xs.map slA
theorem lowRw {n : Nat} (xs : List (List Int)) : lowL n (wj xs) = true:=ja (f:=slA) (fun x=>(lowI x : lowL n (ints x) = true)) xs
def qt (l : Ld) : AV:=if zi l = 0 then .tup [.sl (bunK l l.sacks.length).isEmpty (wj (bunK l l.sacks.length)),.int .i64 0] else .tup [.sl true [],.int .i64 (zi l)]
def zco (l : Ld) : AV:=if zi l = 0 then .tup [slA (stuK l l.sacks.length),.int .i64 0] else .tup [.sl true [],.int .i64 (zi l)]
theorem isF_eq {s k : Nat} (hs : s < 512) (hk : k <= 9) : (iand .i64 (s : Int) (0 - (s : Int)) == ((2 ^ k : Nat) : Int)) = (lowb s == 2 ^ k):=by
 rw [fH hs]
 rw [Bool.eq_iff_iff,beq_iff_eq,beq_iff_eq]
 omega
theorem zbE (l : Ld) (o : LdW l) : Comp Tryz.prog 46 [ldA l] (qt l):=by
 refine Comp.body (T:=tab) (res:=[.tmp 2,.tmp 3]) zb [] Tryz.func46 rfl (by kernel_rfl) Tryz.ntmps46 rfl (by simp only [List.length_cons,List.length_nil];decide) (by simp only [lowL,AV.low,ldL];rfl) ?_;conv=>whnf
 refine za.ret (k9 l o.w o.h1 o.h2 o.h3) ?_
 unfold wY qt
 by_cases h0 : zi l = 0
 ·have ok:=(zB l).1 h0
  have hn:=ok.n
  have dok:=yG ok
  have e1 : ((l.sacks.map skA).length : Int) = l.sacks.length:=by rw [List.length_map]
  have hhv:=dok.hv
  have hnd:=dok.nd
  have hdn : ∀ k,(zf l).nd.getD k 0 = ndS l k:=fun _=>rfl
  have hrd:=fun k=>vJ (zf l) dok (ndS l k) (by have:=vv ok k;have:=pow9 hn;omega)
  rw [if_pos h0,if_pos h0]
  have hnxt : ∀ k,bunK l (k + 1) = if isF l k = true then bunK l k ++ [bits (ndS l k)] else bunK l k:=fun _=>rfl
  generalize zf l = d at dok hhv hnd hdn hrd hnxt
  conv=>whnf
  repeat' first|((with_reducible apply XBr.bne) <;> (intro h;first|(exfalso;omega)|(conv=>whnf)))|fail
  refine Walk.nilgr 6 22 rfl ?_
  refine Walk.loop zb [] (fun k : Nat=>k <= l.sacks.length) (fun k=>[(2,.sl true []),(3,.int .i64 0),(4,.pim (zy d)),(19,natA l.sacks.length),(6,.gr 0 (bunK l k).length),(20,natA k)]) (fun k=>[.grow 22 (bunK l k).isEmpty (wj (bunK l k))]) (fun k=>l.sacks.length - k) 0 (Nat.zero_le _) rfl ⟨rfl,rfl,rfl,congrArg (fun n=>some (AV.int .i64 n)) e1,rfl,rfl,trivial⟩ ?_
  intro k hk
  have hl:=qQ l k
  have hnx:=hnxt k
  have hall : k = l.sacks.length -> bunK l k = bunK l l.sacks.length:=fun h=>by rw [h]
  generalize bunK l k = bk at hl hnx hall
  have hk9:=pow9 (n:=k) (by omega)
  have hsl:=vv ok k
  have hs9:=pow9 hn
  have hF:=isF_eq (s:=ndS l k) (k:=k) (by omega) (by omega)
  have hli:=wK (ndS l k) (by omega)
  have hrt:=hrd k
  rw [show (lowb (ndS l k) == 2 ^ k) = isF l k from rfl] at hF
  rw [<- hdn] at hF hli hsl hrt hnx
  conv=>whnf
  repeat' first|((with_reducible apply XBr.dec) <;> (intro h;first|(exfalso;omega)|((try simp only [List.length_map] at h);first|(exfalso;omega)|(conv=>whnf))))|((with_reducible apply XBr.beq) <;> (intro h;first|(exfalso;omega)|(conv=>whnf)))|((with_reducible refine XInt.i64 (by omega) (by omega) ?_);conv=>whnf)|((with_reducible refine zj.mk ?_ ?_);(first | omega | rfl | decide|exact ⟨rfl,by decide,rfl⟩|exact zz _|exact zp _|exact zq _|(unfold Room;constructor <;> ((try simp) <;> omega))|exact ⟨rfl,by simp only [List.length_map],by unfold Room;constructor <;> ((try simp) <;> omega)⟩|exact ⟨by omega,by omega,by unfold Room;constructor <;> ((try simp) <;> omega)⟩);conv=>whnf)|((first|(with_reducible refine zbB.desk (by assumption) ?_)|((with_reducible refine XArr.nats ?_ ?_ ?_);omega;omega)|(refine XInt.eq (kw (by omega)) (by omega) (by omega) ?_)|(refine za.ret hli ?_));conv=>whnf)|fail
  ·have hT : isF l k = true:=by rw [<- hF,beq_iff_eq];exact h
   refine zh.go (k + 1) (by omega) (by omega) ?_ ⟨rfl,rfl,rfl,rfl,?_,rfl,trivial⟩
   ·rw [hnx,if_pos hT];simp only [List.map_append,ya];rfl
   ·rw [hnx,if_pos hT];simp only [List.length_append];rfl
  ·have hT : ¬ isF l k = true:=by rw [<- hF,beq_iff_eq];exact h
   refine zh.go (k + 1) (by omega) (by omega) ?_ ⟨rfl,rfl,rfl,rfl,?_,rfl,trivial⟩
   ·rw [hnx,if_neg hT]
   ·rw [hnx,if_neg hT];rfl
  ·rw [<- hall (by omega)]
   exact ⟨Froz.tup (.cons (Froz.grow rfl (by rw [List.length_map]) (lowRw _)) (.cons (Froz.low rfl) .nil))⟩
 ·rw [if_neg h0,if_neg h0]
  conv=>whnf
  repeat' first|((with_reducible apply XBr.bne) <;> (intro h;first|(exfalso;omega)|(conv=>whnf)))|fail
  exact ⟨Froz.low rfl⟩
theorem stuck_c (l : Ld) (o : LdW l) : Comp Tryz.prog 47 [ldA l] (zco l):=by
 refine Comp.body (T:=tab) (res:=[.tmp 2,.tmp 3]) zb [] Tryz.func47 rfl (by kernel_rfl) Tryz.ntmps47 rfl (by simp only [List.length_cons,List.length_nil];decide) (by simp only [lowL,AV.low,ldL];rfl) ?_;conv=>whnf
 refine za.ret (k9 l o.w o.h1 o.h2 o.h3) ?_
 unfold wY zco
 by_cases h0 : zi l = 0
 ·have ok:=(zB l).1 h0
  have hn:=ok.n
  have dok:=yG ok
  have e1 : ((l.sacks.map skA).length : Int) = l.sacks.length:=by rw [List.length_map]
  have hhv:=dok.hv
  have hnd:=dok.nd
  have hdn : ∀ k,(zf l).nd.getD k 0 = ndS l k:=fun _=>rfl
  have hrd:=fun k=>vJ (zf l) dok (ndS l k) (by have:=vv ok k;have:=pow9 hn;omega)
  rw [if_pos h0,if_pos h0]
  have hnxt : ∀ k,stuK l (k + 1) = if (isF l k && !zn (zf l) (ndS l k)) = true then stuK l k ++ [(k : Int)] else stuK l k:=fun _=>rfl
  generalize zf l = d at dok hhv hnd hdn hrd hnxt
  conv=>whnf
  repeat' first|((with_reducible apply XBr.bne) <;> (intro h;first|(exfalso;omega)|(conv=>whnf)))|fail
  refine Walk.nilgr 6 3 rfl ?_
  refine Walk.loop zb [] (fun k : Nat=>k <= l.sacks.length) (fun k=>[(2,.sl true []),(3,.int .i64 0),(4,.pim (zy d)),(19,natA l.sacks.length),(6,.gr 0 (stuK l k).length),(20,natA k)]) (fun k=>[.grow 3 (stuK l k).isEmpty (ints (stuK l k))]) (fun k=>l.sacks.length - k) 0 (Nat.zero_le _) rfl ⟨rfl,rfl,rfl,congrArg (fun n=>some (AV.int .i64 n)) e1,rfl,rfl,trivial⟩ ?_
  intro k hk
  have hl:=qH l k
  have hnx:=hnxt k
  have hall : k = l.sacks.length -> stuK l k = stuK l l.sacks.length:=fun h=>by rw [h]
  generalize stuK l k = bk at hl hnx hall
  have hk9:=pow9 (n:=k) (by omega)
  have hsl:=vv ok k
  have hs9:=pow9 hn
  have hF:=isF_eq (s:=ndS l k) (k:=k) (by omega) (by omega)
  have hli:=wK (ndS l k) (by omega)
  have hrt:=hrd k
  rw [show (lowb (ndS l k) == 2 ^ k) = isF l k from rfl] at hF
  rw [<- hdn] at hF hli hsl hrt hnx
  conv=>whnf
  repeat' first|((first|(with_reducible apply XBr.tt)|(with_reducible apply XBr.ff));conv=>whnf)|(with_reducible apply XBr.not)|((with_reducible apply XBr.dec) <;> (intro h;first|(exfalso;omega)|((try simp only [List.length_map] at h);first|(exfalso;omega)|(conv=>whnf))))|((with_reducible apply XBr.beq) <;> (intro h;first|(exfalso;omega)|(conv=>whnf)))|((with_reducible refine XInt.i64 (by omega) (by omega) ?_);conv=>whnf)|((with_reducible refine zj.mk ?_ ?_);(first | omega | rfl | decide|exact ⟨rfl,by decide,rfl⟩|exact zz _|exact zp _|exact zq _|(unfold Room;constructor <;> ((try simp) <;> omega))|exact ⟨rfl,by simp only [List.length_map],by unfold Room;constructor <;> ((try simp) <;> omega)⟩|exact ⟨by omega,by omega,by unfold Room;constructor <;> ((try simp) <;> omega)⟩);conv=>whnf)|((first|(with_reducible refine zbB.desk (by assumption) ?_)|((with_reducible refine XArr.nats ?_ ?_ ?_);omega;omega)|(refine XInt.eq (kw (by omega)) (by omega) (by omega) ?_)|(refine za.ret hrt ?_));conv=>whnf)|((with_reducible apply XBr.mk') <;> (intro h;conv=>whnf))|fail
  ·have hT : ¬ (isF l k && !zn d (d.nd.getD k 0)) = true:=by rw [h];simp
   refine zh.go (k + 1) (by omega) (by omega) ?_ ⟨rfl,rfl,rfl,rfl,?_,rfl,trivial⟩
   ·rw [hnx,if_neg hT]
   ·rw [hnx,if_neg hT];rfl
  ·have hT : (isF l k && !zn d (d.nd.getD k 0)) = true:=by rename_i hx;rw [h,<- hF,hx];simp
   refine zh.go (k + 1) (by omega) (by omega) ?_ ⟨rfl,rfl,rfl,rfl,?_,rfl,trivial⟩
   ·rw [hnx,if_pos hT];simp only [List.map_append,ya];rfl
   ·rw [hnx,if_pos hT];simp only [List.length_append];rfl
  ·have hT : ¬ (isF l k && !zn d (d.nd.getD k 0)) = true:=by rw [<- hF,beq_eq_false_iff_ne.2 h];simp
   refine zh.go (k + 1) (by omega) (by omega) ?_ ⟨rfl,rfl,rfl,rfl,?_,rfl,trivial⟩
   ·rw [hnx,if_neg hT]
   ·rw [hnx,if_neg hT];rfl
  ·rw [<- hall (by omega)]
   exact ⟨Froz.tup (.cons (by unfold slA;exact Froz.grow rfl (by rw [List.length_map]) (lowI _)) (.cons (Froz.low rfl) .nil))⟩
 ·rw [if_neg h0,if_neg h0]
  conv=>whnf
  repeat' first|((with_reducible apply XBr.bne) <;> (intro h;first|(exfalso;omega)|(conv=>whnf)))|fail
  exact ⟨Froz.low rfl⟩
end GA
end
section
namespace GA
open Go Go.RowKit Go.Proofs
theorem equalI (n1 n2 : Bool) (xs : List Int) (hx : xs.length <= 100000) : Comp Tryz.prog 83 [.sl n1 (ints xs),.sl n2 (ints xs)] (.bool true):=by
 have h:=zbx n1 n2 xs xs hx
 rwa [show (xs == xs) = true by simp] at h
theorem eqI (n1 n2 : Bool) (xs : List Int) (hx : xs.length <= 100000) : Comp Tryz.prog 23 [.sl n1 (ints xs),.sl n2 (ints xs)] (.bool true):=by
 have h:=v0 n1 n2 xs xs hx
 rwa [show (xs == xs) = true by simp] at h
theorem equalRows (n1 n2 : Bool) (xs : List (List Int)) (hx : xs.length <= 1000) (hr : ∀ r ∈ xs,r.length <= 1000) : Comp Tryz.prog 93 [.sl n1 (wj xs),.sl n2 (wj xs),.fn 83 []] (.bool true):=by
 refine Comp.body (T:=tab) (res:=[.tmp 6]) zb [] Tryz.func93 rfl (by kernel_rfl) Tryz.ntmps93 rfl (by simp only [List.length_cons,List.length_nil];decide) (by simp only [lowL,AV.low,lowRw];rfl) ?_;conv=>whnf
 repeat' first|((with_reducible apply XBr.bne) <;> (intro h;first|(exfalso;omega)|(conv=>whnf)))|fail
 refine Walk.loop zb [] (fun i : Nat=>i <= xs.length) (fun i=>[(1,.sl n2 (wj xs)),(2,.fn 83 []),(15,.sl n1 (wj xs)),(16,natA xs.length),(17,natA i)]) (fun _=>[]) (fun i=>xs.length - i) 0 (Nat.zero_le _) rfl ⟨rfl,rfl,rfl,by simp only [List.length_map];rfl,rfl,trivial⟩ ?_
 intro i hi
 have hri : i < xs.length -> (xs.getD i default).length <= 1000:=fun h=>hr _ (zu h)
 conv=>whnf
 repeat' first|((with_reducible apply XBr.tt);conv=>whnf)|(with_reducible apply XBr.not)|((with_reducible apply XBr.dec) <;> (intro h;first|(exfalso;omega)|((try simp only [List.length_map] at h);first|(exfalso;omega)|(conv=>whnf))))|((first|(with_reducible refine XInt.i64 (by omega) (by omega) ?_)|((with_reducible refine XIx.nat ?_ ?_ ?_);omega;(intro _;rfl))|(refine za.ret (equalI _ _ (xs.getD i default) (by have:=hri (by omega);omega)) ?_));conv=>whnf)|fail
 ·exact zh.go (i + 1) (by omega) (by omega) rfl ⟨rfl,rfl,rfl,rfl,rfl,trivial⟩
 ·exact XOut.bool rfl
theorem eqRows (n1 n2 : Bool) (xs : List (List Int)) (hx : xs.length <= 1000) (hr : ∀ r ∈ xs,r.length <= 1000) : Comp Tryz.prog 52 [.sl n1 (wj xs),.sl n2 (wj xs)] (.bool true):=by
 refine Comp.body (T:=tab) (res:=[.tmp 4]) zb [] Tryz.func52 rfl (by kernel_rfl) Tryz.ntmps52 rfl (by simp only [List.length_cons,List.length_nil];decide) (by simp only [lowL,AV.low,lowRw];rfl) ?_;conv=>whnf
 repeat' first|((refine za.ret (equalRows n1 n2 xs hx hr) ?_);conv=>whnf)|fail
 exact XOut.bool rfl
def reL (l : Ld) (a b c : Bool) : Ld:=⟨l.bears,l.shrink,a,l.sacks,b,l.apart,c,l.wth⟩
theorem j2 (l : Ld) : ownL l = reL l false false false:=rfl
theorem w5 (l : Ld) : thL l = reL l l.sacks.isEmpty l.nla l.nlw:=rfl
theorem zbN (l : Ld) (a b c : Bool) : ∀ (n : Nat) (x : List Nat),zU (reL l a b c) n x = zU l n x
 | 0,_=>rfl
 | n + 1,x=>by
   show (if zE l x = x then x else zU (reL l a b c) n (zE l x)) = if zE l x = x then x else zU l n (zE l x)
   rw [zbN l a b c n]
theorem nd_re (l : Ld) (a b c : Bool) : (zf (reL l a b c)).nd = (zf l).nd:=zbN l a b c 5000 _
theorem zcK (l : Ld) (a b c : Bool) (i : Nat) : ndS (reL l a b c) i = ndS l i:=by unfold ndS;rw [nd_re]
theorem kX (l : Ld) (a b c : Bool) (s : Nat) : zn (zf (reL l a b c)) s = zn (zf l) s:=by
 unfold zn v1
 rw [nd_re];rfl
theorem isF_re (l : Ld) (a b c : Bool) (i : Nat) : isF (reL l a b c) i = isF l i:=by unfold isF;rw [zcK]
theorem bunK_re (l : Ld) (a b c : Bool) : ∀ k,bunK (reL l a b c) k = bunK l k
 | 0=>rfl
 | k + 1=>by unfold bunK;rw [isF_re,zcK,bunK_re l a b c k]
theorem stuK_re (l : Ld) (a b c : Bool) : ∀ k,stuK (reL l a b c) k = stuK l k
 | 0=>rfl
 | k + 1=>by unfold stuK;rw [isF_re,zcK,kX,stuK_re l a b c k]
theorem zam {l : Ld} (o : LdOk l) (a b c : Bool) : LdOk (reL l a b c):=⟨o.n,o.na,o.nw,o.b1,o.b2,o.s1,o.s2,o.sk,o.ap,o.wp⟩
end GA
end
section
namespace GA
open Go Go.RowKit
section
variable {P : Program} {H : List Blk}
theorem take_ne {α : Type} {els : List α} {o n : Nat} (hz : n ≠ 0) (hle : o + n <= els.length) : ((els.drop o).take n).length = n /\ (els.drop o).take n ≠ []:=by
 have hlen : ((els.drop o).take n).length = n:=by simp;omega
 exact ⟨hlen,fun e=>by rw [e] at hlen;simp at hlen;omega⟩
theorem Froz.osC {i m o n : Nat} {cs : List AV} (hb : lget H i = some (.cells cs)) (hle : o + n <= cs.length) (hl : lowL 0 cs = true) : Froz P H (.os i m o n) (.sl false ((cs.drop o).take n)):=by
 intro E h β w s v hr
 have hb':=hb;rw [zr] at hb'
 cases hr with
 | @os _ _ _ _ b q cap hi hn hc hg _ =>
   by_cases hz : n = 0
   ·subst hz;rw [List.take_zero];exact .slemp
   ·obtain ⟨g1,g2⟩:=hc _ hb' hz
    obtain ⟨b',c,t,h2,h3,h4,h5,us,h6,h7⟩:=s.blk i _ hb'
    rw [h2] at g2;cases g2
    have hbo : blkOf β H i = some b:=by simp only [blkOf,hb',h2,anchor]
    obtain ⟨k1,k2⟩:=take_ne hz hle
    have hone' : ∀ x ∈ (cs.drop o).take n,x.one = true:=fun x hx=>h5 x (List.mem_of_mem_drop (List.mem_of_mem_take hx))
    have hcell : ∀ x : AV,x.one = true -> x.cells.length = 1:=fun x hx=>by cases x <;> first | rfl | simp [AV.one] at hx
    have hget : ∀ (j : Nat) x,((cs.drop o).take n)[j]? = some x -> cs[o + j]? = some x:=by
     intro j x e
     rw [List.getElem?_take] at e
     split at e
     ·rw [List.getElem?_drop] at e;exact e
     ·cases e
    refine .sl (w:=1) (fun j=>us (o + j)) k1.symm k2 ((qz hbo).trans h3) (fun e he=>hcell e (hone' e he)) (by omega) (by rw [yP hone'];exact hone') (by omega) (fun j x e=>?_) (fun j x e=>?_)
    ·rw [yP hone'] at e;rw [g1];exact h6 _ x (hget j x e)
    ·rw [yP hone'] at e
     exact Froz.low (zt.1 hl x (List.mem_of_getElem? (hget j x e))) E h β w s _ (h7 _ x (hget j x e))
end
end GA
end
section
namespace GA
open Go Go.RowKit Go.Proofs
theorem every1_bf (x : Int) (g : FuncId) (fs : List AV) (p : Int -> Bool) (hl : lowL 0 fs = true) (hp : Comp Tryz.prog g (fs ++ [.int .i64 x]) (.bool (p x))) :
  Comp Tryz.prog 111 [.int .i64 x,.pim [.bf g fs]] (.bool (!p x)):=by
 refine Comp.body (T:=tab) (res:=[.tmp 3]) zb [] Tryz.func111 rfl (by kernel_rfl) Tryz.ntmps111 rfl (by simp only [List.length_cons,List.length_nil];decide) (by simp only [lowL,AV.low,hl];rfl) ?_;conv=>whnf
 refine za.ret hp ?_
 conv=>whnf
 exact XOut.bool rfl
theorem every_bf (nl : Bool) (xs : List Int) (g : FuncId) (fs : List AV) (p : Int -> Bool) (hl : lowL 0 fs = true) (hx : xs.length <= 100000) (hp : ∀ x ∈ xs,Comp Tryz.prog g (fs ++ [.int .i64 x]) (.bool (p x))) :
  Comp Tryz.prog 88 [.sl nl (ints xs),.bf g fs] (.bool (xs.all p)):=by
 refine Comp.body (T:=tab) (res:=[.tmp 4]) zb [] Tryz.func88 rfl (by kernel_rfl) Tryz.ntmps88 rfl (by simp only [List.length_cons,List.length_nil];decide) (by simp only [lowL,AV.low,lowI,hl];rfl) ?_;conv=>whnf
 refine za.ret (zcb nl xs 111 [.pim [.bf g fs]] (fun x=>!p x) (by simp only [lowL,AV.low,hl];rfl) hx fun x hm=>every1_bf x g fs p hl (hp x hm)) ?_
 conv=>whnf
 refine XOut.bool ?_
 rw [List.not_any_eq_all_not];simp
theorem jy {α : Type} [Inhabited α] {xs : List α} {k : Nat} (h : k < xs.length) : xs.drop k = xs.getD k default :: xs.drop (k + 1):=by
 rw [List.drop_eq_getElem_cons h,List.getD_eq_getElem?_getD,List.getElem?_eq_getElem h];rfl
def yF (n : Nat) : Nat -> List Int -> Int × Nat
 | s,[]=>(0,s)
 | s,i :: t=>if i < 0 \/ (n : Int) <= i then (1,s) else if s.testBit i.toNat = true then (5,s) else yF n (s ||| 2 ^ i.toNat) t
theorem zan {n s : Nat} {xs : List Int} {k : Nat} (h : k < xs.length) : yF n s (xs.drop k) = if xs.getD k default < 0 \/ (n : Int) <= xs.getD k default then (1,s) else if s.testBit (xs.getD k default).toNat = true then (5,s) else yF n (s ||| 2 ^ (xs.getD k default).toNat) (xs.drop (k + 1)):=by
 rw [jy h];rfl
theorem zbS {n s : Nat} {xs : List Int} {k : Nat} (h : k = xs.length) : yF n s (xs.drop k) = (0,s):=by
 rw [h,List.drop_length];rfl
theorem or_lt {n s i : Nat} (hs : s < 2 ^ n) (hi : i < n) : s ||| 2 ^ i < 2 ^ n:=Nat.or_lt_two_pow hs (Nat.pow_lt_pow_right (by omega) hi)
def v4 (l : Ld) (cart : List Int) : Int:=if zi l ≠ 0 then zi l else (yF l.sacks.length 0 cart).1
def wJ (l : Ld) (cart : List Int) : Bool:=decide (v4 l cart = 0) && zn (zf l) (yF l.sacks.length 0 cart).2
theorem rightX_c (l : Ld) (nl : Bool) (xs : List Int) (o : LdW l) (hx : xs.length <= 100000) : Comp Tryz.prog 54 [ldA l,.sl nl (ints xs)] (.tup [.bool (wJ l xs),.int .i64 (v4 l xs)]):=by
 have ho:=k9 l o.w o.h1 o.h2 o.h3
 have hsc:=fun i=>sack_c l i o.h1
 unfold wY at ho
 refine Comp.body (T:=tab) (res:=[.tmp 4,.tmp 5]) zb [] Tryz.func54 rfl (by kernel_rfl) Tryz.ntmps54 rfl (by simp only [List.length_cons,List.length_nil];decide) (by simp only [lowL,AV.low,ldL,lowI];rfl) ?_;conv=>whnf
 by_cases h0 : zi l = 0
 ·have ok:=(zB l).1 h0
  have hn:=ok.n
  have hp9:=pow9 hn
  rw [if_pos h0] at ho
  have hE : v4 l xs = (yF l.sacks.length 0 xs).1:=by unfold v4;rw [if_neg (by omega)]
  have hA : wJ l xs = (decide ((yF l.sacks.length 0 xs).1 = 0) && zn (zf l) (yF l.sacks.length 0 xs).2):=by unfold wJ;rw [hE]
  rw [hE,hA]
  repeat' first|((with_reducible apply XBr.bne) <;> (intro h;first|(exfalso;omega)|(conv=>whnf)))|((refine za.ret ho ?_);conv=>whnf)|fail
  refine Walk.loop zb [] (fun p : Nat × Nat=>p.1 <= xs.length /\ p.2 < 2 ^ l.sacks.length /\ yF l.sacks.length 0 xs = yF l.sacks.length p.2 (xs.drop p.1))
   (fun p=>[(6,.pim (zy (zf l))),(9,.bf 76 [ldA l]),(22,.sl nl (ints xs)),(23,natA xs.length),(8,natA p.2),(24,natA p.1)]) (fun _=>[]) (fun p=>xs.length - p.1) (0,0) ⟨Nat.zero_le _,hp9.2,rfl⟩ rfl ⟨rfl,rfl,rfl,congrArg (fun n=>some (AV.int .i64 n)) (by rw [List.length_map]),rfl,rfl,trivial⟩ ?_
  rintro ⟨k,s⟩ ⟨hk,hs,he⟩
  dsimp only at hk hs he
  have hne:=zan (n:=l.sacks.length) (s:=s) (xs:=xs) (k:=k)
  have hen:=zbS (n:=l.sacks.length) (s:=s) (xs:=xs) (k:=k)
  have hrt:=vJ (zf l) (yG ok) s (by omega)
  generalize zf l = d at hrt
  conv=>whnf
  repeat' first|(with_reducible apply XBr.not)|((with_reducible apply XBr.dec) <;> (intro h;first|(exfalso;omega)|((try simp only [List.length_map] at h);first|(exfalso;omega)|(conv=>whnf))))|((first|((with_reducible refine XIx.nat ?_ ?_ ?_);omega;(intro _;rfl))|(refine za.ret (hsc _) ?_));conv=>whnf)|((with_reducible apply XBr.mk') <;> (intro h;conv=>whnf))|fail
  ·generalize hv : xs.getD (k,s).1 default = v at h
   dsimp only at hv
   rw [hv] at hne
   have hin : 0 <= v /\ v < l.sacks.length:=by unfold inB at h;simp at h;omega
   obtain ⟨i,rfl⟩:=Int.eq_ofNat_of_zero_le hin.1
   have hb:=zdb (set:=s) (p:=(i : Int)) hin.1 (by omega) (by omega)
   have htb : s.testBit i = decide (s / 2 ^ i % 2 = 1):=Nat.testBit_eq_decide_div_mod_eq
   have p8 : 2 ^ i <= 256:=Nat.pow_le_pow_right (n:=2) (by omega) (show i <= 8 by omega)
   have p0 : 0 < 2 ^ i:=Nat.two_pow_pos i
   have hor : ior .i64 (s : Int) ((2 ^ i : Nat) : Int) = ((s ||| 2 ^ i : Nat) : Int):=wP (by omega) (by omega)
   rw [Int.toNat_natCast] at hne
   repeat' first|((with_reducible apply XBr.beq) <;> (intro h;first|(exfalso;omega)|(conv=>whnf)))|((with_reducible refine zj.mk ?_ ?_);(first | omega | rfl | decide|exact ⟨rfl,by decide,rfl⟩|exact zz _|exact zp _|exact zq _|(unfold Room;constructor <;> ((try simp) <;> omega))|exact ⟨rfl,by simp only [List.length_map],by unfold Room;constructor <;> ((try simp) <;> omega)⟩|exact ⟨by omega,by omega,by unfold Room;constructor <;> ((try simp) <;> omega)⟩);conv=>whnf)|fail
   ·have hbit : iand .i64 ((s : Int).fdiv (2 ^ min (i : Int).toNat IntKind.i64.bits)) 1 = 1:=h
    rw [hb,Int.toNat_natCast] at hbit
    rw [hne (by omega),if_neg (by omega),if_pos (by rw [htb,decide_eq_true_eq];omega)] at he
    rw [he]
    exact ⟨Froz.low rfl⟩
   ·have hbit : ¬ iand .i64 ((s : Int).fdiv (2 ^ min (i : Int).toNat IntKind.i64.bits)) 1 = 1:=h
    rw [hb,Int.toNat_natCast] at hbit
    refine XInt.eq (y:=((2 ^ i : Nat) : Int)) (kw (by omega)) (by omega) (by omega) ?_
    conv=>whnf
    repeat' first|((with_reducible refine XInt.i64 (by omega) (by omega) ?_);conv=>whnf)|fail
    rw [hne (by omega),if_neg (by omega),if_neg (by rw [htb,decide_eq_true_eq];omega)] at he
    refine zh.go (k + 1,s ||| 2 ^ i) ⟨by dsimp only;omega,or_lt hs (by omega),he⟩ (by dsimp only;omega) rfl ⟨rfl,rfl,rfl,rfl,?_,rfl,trivial⟩
    show some (AV.int .i64 (ior .i64 (s : Int) ((2 ^ i : Nat) : Int))) = some (natA (s ||| 2 ^ i))
    rw [hor];rfl
  ·have hin : ¬ (0 <= xs.getD k default /\ xs.getD k default < l.sacks.length):=by
    have h' : inB (xs.getD k default) 0 ((l.sacks.length : Int) - 1) = false:=h
    generalize xs.getD k default = v at h'
    unfold inB at h';simp at h';omega
   rw [hne (by omega),if_pos (by omega)] at he
   rw [he]
   exact ⟨Froz.low rfl⟩
  ·rw [hen (by omega)] at he
   rw [he]
   repeat' first|((refine za.ret hrt ?_);conv=>whnf)|fail
   exact ⟨Froz.low rfl⟩
 ·have hE : v4 l xs = zi l:=by unfold v4;rw [if_pos h0]
  have hA : wJ l xs = false:=by unfold wJ;rw [hE,decide_eq_false h0];rfl
  rw [if_neg h0] at ho
  rw [hE,hA]
  generalize zi l = e at h0 ho
  repeat' first|((with_reducible apply XBr.bne) <;> (intro h;first|(exfalso;omega)|(conv=>whnf)))|((refine za.ret ho ?_);conv=>whnf)|fail
  exact ⟨Froz.low rfl⟩
end GA
end
section
namespace GA
open Go Go.RowKit
section
variable {P : Program} {N : Nat} {ρ : Option Nat} {E : Env} {h h' : Nat -> Option Obj} {β : Nat -> Value} {H H' : List Blk} {w : World} {σ : St}
theorem zcv (s : SR P E h β H w) {i n : Nat} {t : TypeId} {nl : Bool} {els : List AV} (hi : H[i]? = some (.grow t nl els)) (hn : els.length = n) {v : Value} (hr : Rep P h β H (.gr i n) v) (X : Ext h β H h' β H')
  (hfz : ∀ b o,blkOf β H i = some b -> w.heap[b]? = some o -> h' b = some o) : Rep P h' β H' (.sl nl els) v:=by
 cases hr with
 | gr ho hl hv =>
   obtain ⟨_,h2⟩:=hv _ _ _ hi
   have hβ:=h2 hn
   subst hβ
   rcases s.blk i _ hi with ⟨rfl,rfl,h3⟩ | ⟨rfl,rfl,b,h3⟩ | ⟨rfl,b,cap,c,h3,h4,h5,h6,h7,h8,h9,h10,h11,us,h12,h13⟩
   ·rw [h3];exact .slnil
   ·rw [h3];exact .slemp
   ·rw [h3]
    cases els with
    | nil=>exact .slemp
    | cons e0 l0 =>
      have hbo : blkOf β H i = some b:=by simp only [blkOf,hi,h3,anchor];rw [if_neg (by omega)]
      exact .sl us rfl (by simp) (hfz b _ hbo h5) h10 h9 h11 h6 (fun j x e=>by rw [Nat.zero_add];exact h12 j x e) (fun j x e=>X.rep (h13 j x e))
theorem Walk.freeze {c : Code} {Q : Post} {D : List Nat} (u i n : Nat) {t : TypeId} {nl : Bool} {els : List AV} (hu : σ u = some (.gr i n)) (hi : lget H i = some (.grow t nl els)) (hn : els.length = n) (x : Walk P N ρ c Q D (updX σ u (.sl nl els)) (H.set i .dead)) : Walk P N ρ c Q D σ H:=by
 constructor
 intro E h β a w s
 rw [zr] at hi
 obtain ⟨h',s1,X,hfz⟩:=s.sr.freeze hi
 refine wpIn_mono (x.o E h' _ a w ⟨s1,fun t' r e=>?_,s.size,s.df.ext X⟩) fun _ _ _=>Conc.ext X
 rw [yZ] at e;unfold upd at e
 split at e
 ·rename_i hh;subst hh;cases e
  obtain ⟨v,h1,h2⟩:=s.fits _ _ hu
  exact ⟨v,h1,zcv s.sr hi hn h2 X hfz⟩
 ·obtain ⟨v,h1,h2⟩:=s.fits t' r e
  exact ⟨v,h1,X.rep h2⟩
inductive FrzV (i n : Nat) (nl : Bool) (els : List AV) : AV -> AV -> Prop
 | same {x : AV} : FrzV i n nl els x x
 | gr : FrzV i n nl els (.gr i n) (.sl nl els)
 | agg {cs cs' : List AV} (hl : cs'.length = cs.length) (hone : ∀ x ∈ cs',x.one = true) (ho : ∀ (j : Nat) x',cs'[j]? = some x' -> ∃ x,cs[j]? = some x /\ (x' = x \/ (x = .gr i n /\ x' = .sl nl els))) : FrzV i n nl els (.agg cs) (.agg cs')
structure FrzL (i n : Nat) (nl : Bool) (els : List AV) (rs rs' : List AV) : Prop where
 l : rs'.length = rs.length
 o : ∀ (j : Nat) x',rs'[j]? = some x' -> ∃ x,rs[j]? = some x /\ FrzV i n nl els x x'
structure FrzC (i n : Nat) (nl : Bool) (els : List AV) (rs rs' : List AV) : Prop where
 l : rs'.length = rs.length
 o : ∀ (j : Nat) x',rs'[j]? = some x' -> ∃ x,rs[j]? = some x /\ (x' = x \/ (x = .gr i n /\ x' = .sl nl els))
section
variable {i n : Nat} {nl : Bool} {els : List AV}
theorem FrzC.nil : FrzC i n nl els [] []:=⟨rfl,by simp⟩
theorem FrzC.cons {x y : AV} {rs rs' : List AV} (hx : y = x \/ (x = .gr i n /\ y = .sl nl els)) (h : FrzC i n nl els rs rs') : FrzC i n nl els (x :: rs) (y :: rs'):=by
 refine ⟨by simp [h.l],fun j z e=>?_⟩
 cases j with
 | zero=>simp at e;subst e;exact ⟨_,rfl,hx⟩
 | succ j=>exact h.o j z (by simpa using e)
theorem FrzC.same {x : AV} {rs rs' : List AV} (h : FrzC i n nl els rs rs') : FrzC i n nl els (x :: rs) (x :: rs'):=.cons (.inl rfl) h
theorem FrzC.gr {rs rs' : List AV} (h : FrzC i n nl els rs rs') : FrzC i n nl els (.gr i n :: rs) (.sl nl els :: rs'):=.cons (.inr ⟨rfl,rfl⟩) h
theorem FrzL.nil : FrzL i n nl els [] []:=⟨rfl,by simp⟩
theorem FrzL.cons {x y : AV} {rs rs' : List AV} (hx : FrzV i n nl els x y) (h : FrzL i n nl els rs rs') : FrzL i n nl els (x :: rs) (y :: rs'):=by
 refine ⟨by simp [h.l],fun j z e=>?_⟩
 cases j with
 | zero=>simp at e;subst e;exact ⟨_,rfl,hx⟩
 | succ j=>exact h.o j z (by simpa using e)
theorem FrzL.same {x : AV} {rs rs' : List AV} (h : FrzL i n nl els rs rs') : FrzL i n nl els (x :: rs) (x :: rs'):=.cons .same h
theorem FrzL.gr {rs rs' : List AV} (h : FrzL i n nl els rs rs') : FrzL i n nl els (.gr i n :: rs) (.sl nl els :: rs'):=.cons .gr h
theorem FrzL.agg {cs cs' rs rs' : List AV} (hone : ∀ x ∈ cs',x.one = true) (hc : FrzC i n nl els cs cs') (h : FrzL i n nl els rs rs') : FrzL i n nl els (.agg cs :: rs) (.agg cs' :: rs'):=.cons (.agg hc.l hone hc.o) h
theorem FrzV.rep (s : SR P E h β H w) {t : TypeId} (hi : H[i]? = some (.grow t nl els)) (hn : els.length = n) (X : Ext h β H h' β H') (hfz : ∀ b o,blkOf β H i = some b -> w.heap[b]? = some o -> h' b = some o) {x y : AV} (hv : FrzV i n nl els x y) {v : Value} (hr : Rep P h β H x v) : Rep P h' β H' y v:=by
 cases hv with
 | same=>exact X.rep hr
 | gr=>exact zcv s hi hn hr X hfz
 | agg hl hone ho =>
   cases hr with
   | agg us h1 h2 h3 h4 =>
     refine .agg us (by rw [h1,hl]) hone (fun j x e=>?_) (fun j x e=>?_)
     ·obtain ⟨z,e1,_⟩:=ho j x e;exact h3 j z e1
     ·obtain ⟨z,e1,e2⟩:=ho j x e
      rcases e2 with rfl | ⟨rfl,rfl⟩
      ·exact X.rep (h4 j _ e1)
      ·exact zcv s hi hn (h4 j _ e1) X hfz
end
theorem za.frz {f : FuncId} {rs rs' : List AV} {k : AV -> List Blk -> Prop} (i n : Nat) {t : TypeId} {nl : Bool} {els : List AV} (hi : lget H i = some (.grow t nl els)) (hn : els.length = n) (hv : FrzL i n nl els rs rs')
  (H' : List Blk) (hH : ∀ E h β w,SR P E h β H w -> ∀ h',SR P E h' β (H.set i .dead) w -> Ext h β H h' β (H.set i .dead) -> (∀ b o,blkOf β H i = some b -> w.heap[b]? = some o -> h' b = some o) -> SR P E h' β H' w /\ Ext h β H h' β H') (x : za P f rs' H' k) : za P f rs H k:=by
 rw [zr] at hi
 refine ⟨x.o.1,fun E h β w vs s hr=>?_⟩
 obtain ⟨h',s1,X,hfz⟩:=s.freeze hi
 obtain ⟨s2,X2⟩:=hH E h β w s h' s1 X hfz
 have hr' : RepL P h' β H' rs' vs:=⟨by rw [hv.l];exact hr.1,fun j y e=>by
  obtain ⟨z,e1,e2⟩:=hv.o j y e
  obtain ⟨v,e3,e4⟩:=hr.2 j z e1
  exact ⟨v,e3,e2.rep s hi hn X2 hfz e4⟩⟩
 refine (x.o.2 E h' β w vs s2 hr').mono ?_
 rintro e w' ⟨r,H'',h'',β'',v,e1,e2,e3,e4⟩
 exact ⟨r,H'',h'',β'',v,e1,e2,X2.trans e3,e4⟩
theorem za.freeze {f : FuncId} {rs rs' : List AV} {k : AV -> List Blk -> Prop} (i n : Nat) {t : TypeId} {nl : Bool} {els : List AV} (hi : lget H i = some (.grow t nl els)) (hn : els.length = n) (hv : FrzL i n nl els rs rs')
  (x : za P f rs' (H.set i .dead) k) : za P f rs H k:=
 .frz i n hi hn hv _ (fun _ _ _ _ _ _ s X _=>⟨s,X⟩) x
theorem za.freezeCell {f : FuncId} {rs rs' : List AV} {k : AV -> List Blk -> Prop} (j o i n : Nat) {cs : List AV} {t : TypeId} {nl : Bool} {els : List AV} (hj : lget H j = some (.cells cs)) (hc : lget cs o = some (.gr i n)) (hi : lget H i = some (.grow t nl els)) (hn : els.length = n)
  (hv : FrzL i n nl els rs rs') (x : za P f rs' ((H.set i .dead).set j (.cells (cs.set o (.sl nl els)))) k) : za P f rs H k:=by
 refine .frz i n hi hn hv _ (fun E h β w s h' s1 X1 hfz=>?_) x
 rw [zr] at hi hj hc
 have hlo:=(List.getElem?_eq_some_iff.1 hc).1
 have hij : i ≠ j:=by rintro rfl;rw [hi] at hj;cases hj
 have hj1 : (H.set i .dead)[j]? = some (.cells cs):=by rw [List.getElem?_set_ne hij];exact hj
 obtain ⟨s2,X2⟩:=s1.modify (β':=β) (w':=w) (x':=.cells (cs.set o (.sl nl els))) hj1 (fun _ _=>rfl) (.inr ⟨_,rfl,rfl⟩) s1.env (fun _ _ _=>rfl) (fun b e=>.inl (by unfold blkOf;rw [hj1];exact e)) (fun X=>by
  obtain ⟨b,c,t,h1,h2,h3,h4,us,h5,h6⟩:=s.blk j _ hj
  refine ⟨b,c,t,h1,h2,by rw [List.length_set];exact h3,fun y hy=>?_,us,fun i y e=>?_,fun i y e=>?_⟩
  ·rcases List.mem_or_eq_of_mem_set hy with hy | rfl
   ·exact h4 y hy
   ·rfl
  ·by_cases hio : o = i
   ·subst hio;exact h5 o _ hc
   ·rw [List.getElem?_set_ne hio] at e;exact h5 i y e
  ·by_cases hio : o = i
   ·subst hio
    rw [List.getElem?_set_self hlo] at e;cases e
    exact zcv s hi hn (h6 o _ hc) (X1.trans X) hfz
   ·rw [List.getElem?_set_ne hio] at e;exact (X1.trans X).rep (h6 i y e))
 exact ⟨s2,X1.trans X2⟩
end
end GA
end
section
namespace GA
open Go Go.RowKit
section
variable {F : Fence} {n : Nat} {P : Program} {Q : Exit -> Act -> World -> Prop} {a : Act} {w : World}
theorem km {b : Frame} {k : List Item} {cs : List Frame} {c : Code} : step P (lone (b.atR a (.code (.scope c) :: k)) cs w) = .next (lone (b.atR a (.code c :: .inScope c :: k)) cs w):=
 step_lone_go (by simp [stepG,stepG.exec,Frame.atR])
theorem zbp {b : Frame} {k : List Item} {cs : List Frame} {c : Code} : step P (lone (b.atR a (.inScope c :: k)) cs w) = .next (lone (b.atR a k) cs w):=
 step_lone_go (by simp [stepG,stepG.exec,Frame.atR])
theorem zeM {c : Code} (h : c.wpIn F n P (Exit.noGoto Q) a w) : (Code.scope c).wpIn F n P Q a w:=by
 intro b k cs hro hb hr
 have h0 : (lone (b.atR a (.code (.scope c) :: k)) cs w).fenced P F:=fenced_calm hb hr rfl
 obtain ⟨e,a₁,w₁,hq,harr⟩:=h b (.inScope c :: k) cs hro hb hr
 cases e with
 | normal=>exact ⟨.normal,a₁,w₁,hq,.head h0 km (StepsIn.trans harr (.one (fenced_calm hb hr rfl) zbp))⟩
 | exit id =>
   have hx : exitTo id (.inScope c :: k) = exitTo id k:=by simp [exitTo]
   exact ⟨.exit id,a₁,w₁,hq,fun k' hk=>.head h0 km (harr.1 k' (by rw [hx];exact hk)),
    fun hr' hk=>let ⟨k₁,h1,h2⟩:=harr.2 hr' (by rw [hx];exact hk);⟨k₁,h1,.head h0 km h2⟩⟩
 | goto l=>exact hq.elim
 | ret=>exact ⟨_,a₁,w₁,hq,.of_steps (.one h0 km) harr⟩
 | panic ch=>exact ⟨_,a₁,w₁,hq,.of_steps (.one h0 km) harr⟩
 | outgrown=>exact ⟨_,a₁,w₁,hq,.of_steps (.one h0 km) harr⟩
end
section
variable {P : Program} {T : Tab} {N : Nat} {ρ : Option Nat} {D : List Nat} {σ : St} {H : List Blk} {Q : Post} {own : List Nat}
def scopeX (Q : Post) : Post
 | .goto _,_,_,_=>False
 | e,D,σ,H=>Q e D σ H
theorem Walk.scope {c : Code} (ok : zA P T) (own : List Nat) (x : XRun P T N ρ own c (scopeX Q) D σ H) : Walk P N ρ (.scope c) Q D σ H:=by
 constructor
 intro E h β a w s
 refine zeM (wpIn_mono (XRun.sound ok x E h β a w s) ?_)
 rintro e a' w' ⟨D',σ',H',h',β',q,X,s'⟩
 cases e with
 | goto l=>exact q.elim
 | _=>exact ⟨D',σ',H',h',β',q,X,s'⟩
theorem Walk.label {l : Nat} (x : Q .normal D σ H) : Walk P N ρ (.label l) Q D σ H:=
 ⟨fun E h β a w s=>wpIn_label ⟨D,σ,H,h,β,x,Ext.refl _ _ _,s⟩⟩
end
end GA
end
section
namespace GA
open Go Go.RowKit
section
variable {P : Program} {T : Tab} {N : Nat} {ρ : Option Nat} {D : List Nat} {σ : St} {H : List Blk} {Q : Post}
def q7 (P : Program) (n : Nat) (H : List Blk) (r r' : AV) : Prop:=zaM P n H r r' \/ (r' = r /\ r.low n = true)
theorem q7.same {n : Nat} {r : AV} (h : r.low n = true) : q7 P n H r r:=.inr ⟨rfl,h⟩
theorem q7.gr {n i m : Nat} {t : TypeId} {nl : Bool} {els : List AV} (hi : n <= i) (hb : lget H i = some (.grow t nl els)) (hn : els.length = m) (hl : lowL 0 els = true) : q7 P n H (.gr i m) (.sl nl els):=.inl (.grow hi hb hn hl)
def SubF (P : Program) (n : Nat) (H : List Blk) : List (Nat × AV) -> St -> Prop
 | [],_=>True
 | (t,r') :: l,σ=>(∃ r,σ t = some r /\ q7 P n H r r') /\ SubF P n H l σ
theorem qL {n : Nat} : ∀ {l : List (Nat × AV)} {σ : St},SubF P n H l σ -> ∀ t r,stX l t = some r -> ∃ r0,σ t = some r0 /\ q7 P n H r0 r
 | [],_,_,_,_,e=>by cases e
 | (u,x) :: l,σ,h,t,r,e=>by
   simp only [stX,yZ,upd] at e
   split at e
   ·rename_i h1;subst h1;cases e;exact h.1
   ·exact qL h.2 t r e
theorem AWp.loopF {c : Code} {G : Type} (st : G -> St) (hp : G -> List Blk) (μ : G -> Nat) (g0 : G) (hσ : ∀ t r,st g0 t = some r -> σ t = some r) (hH : hp g0 = H) (hD : D = [])
  (hlow : ∀ g,∀ x ∈ hp g,x.low (hp g).length = true) (hlen : ∀ g,(hp g0).length <= (hp g).length)
  (round : ∀ g,AWp P N ρ c (yW (fun D' σ' H'=>D' = D /\ ∃ g' l,μ g' < μ g /\ hp g' ++ l = H' /\ ∀ t r,st g' t = some r -> ∃ r0,σ' t = some r0 /\ q7 P (hp g').length H' r0 r) Q) D (st g) (hp g)) : AWp P N ρ (.loop c) Q D σ H:=by
 intro E h β a w s
 subst hH;subst hD
 let I : G -> Act -> World -> Prop:=fun g a w=>∃ h' β',Ext h β (hp g0) h' β' (hp g) /\ yS P E N h' β' [] (st g) (hp g) a w
 have least : ∀ a w,(∃ g,I g a w) -> ∃ n,(∃ g,I g a w /\ μ g = n) /\ ∀ m,m < n -> ¬ ∃ g,I g a w /\ μ g = m:=
  fun a w ⟨g,hg⟩=>kq ⟨μ g,g,hg,rfl⟩
 classical
 let M : Act -> World -> Nat:=fun a w=>if e : ∃ g,I g a w then Classical.choose (least a w e) else 0
 have hM : ∀ a w (e : ∃ g,I g a w),(∃ g,I g a w /\ μ g = M a w) /\ ∀ g,I g a w -> M a w <= μ g:=by
  intro a w e
  have hc:=Classical.choose_spec (least a w e)
  have hm : M a w = Classical.choose (least a w e):=by simp only [M,dif_pos e]
  rw [hm]
  refine ⟨hc.1,fun g hg=>?_⟩
  rcases Nat.lt_or_ge (μ g) (Classical.choose (least a w e)) with hlt | hge
  ·exact absurd ⟨g,hg,rfl⟩ (hc.2 _ hlt)
  ·exact hge
 refine wpIn_loop (fun a w=>∃ g,I g a w) M ⟨g0,h,β,Ext.refl _ _ _,s.sr,fun t r e=>s.fits t r (hσ t r e),s.size,s.df⟩ ?_
 intro a' w' hI
 obtain ⟨⟨g,hg,hmu⟩,_⟩:=hM a' w' hI
 obtain ⟨h',β',X,s'⟩:=hg
 refine wpIn_mono (round g E h' β' a' w' s') ?_
 rintro e a'' w'' ⟨D'',σ'',H'',h'',β'',q,X',s''⟩
 cases e with
 | normal =>
   obtain ⟨rfl,g',l,hlt,rfl,hsub⟩:=q
   have XA : Ext h'' β'' (hp g' ++ l) (yx (hp g').length h'' β'' (hp g' ++ l) w'') β'' (hp g' ++ l):=⟨fun b o e=>kE s''.sr e,Nat.le_refl _,fun i x x' e e'=>by rw [e] at e';cases e';exact Blk.to_refl _ _ _⟩
   have hI' : I g' a'' w'':=by
    refine ⟨yx (hp g').length h'' β'' (hp g' ++ l) w'',β'',((X.trans X').trans XA).cut (hlen g'),s''.sr.allN (hlow g'),fun t r e=>?_,s''.size,(s''.df.ext XA).any⟩
    obtain ⟨r0,e1,e2⟩:=hsub t r e
    obtain ⟨v,h1,h2⟩:=s''.fits t r0 e1
    rcases e2 with e2 | ⟨rfl,e2⟩
    ·exact ⟨v,h1,e2 E h'' β'' w'' s''.sr v h2 (hp g')⟩
    ·exact ⟨v,h1,(XA.rep h2).cut e2⟩
   refine ⟨⟨g',hI'⟩,?_⟩
   have:=(hM a'' w'' ⟨g',hI'⟩).2 g' hI'
   omega
 | _=>exact ⟨D'',σ'',H'',h'',β'',q,X.trans X',s''⟩
structure vB {G : Type} (P : Program) (I : G -> Prop) (L : G -> List (Nat × AV)) (hp : G -> List Blk) (μ : G -> Nat) (g : G) (D' : List Nat) (σ' : St) (H' : List Blk) : Prop where
 d : D' = []
 o : ∃ g' l,I g' /\ μ g' < μ g /\ hp g' ++ l = H' /\ SubF P (hp g').length H' (L g') σ'
theorem Walk.loopF {c : Code} {G : Type} (ok : zA P T) (own : List Nat) (I : G -> Prop) (L : G -> List (Nat × AV)) (hp : G -> List Blk) (μ : G -> Nat) (g0 : G) (h0 : I g0) (hH : hp g0 = H) (hs : SubX (L g0) σ)
  (hlow : ∀ g,I g -> ∀ x ∈ hp g,x.low (hp g).length = true) (hlen : ∀ g,I g -> (hp g0).length <= (hp g).length)
  (round : ∀ g,I g -> XRun P T N ρ own c (yW (vB P I L hp μ g) Q) [] (stX (L g)) (hp g)) : Walk P N ρ (.loop c) Q [] σ H:=by
 constructor
 refine AWp.loopF (G:={g : G // I g}) (fun g=>stX (L g.1)) (fun g=>hp g.1) (fun g=>μ g.1) ⟨g0,h0⟩ (yN hs) hH rfl (fun g=>hlow g.1 g.2) (fun g=>hlen g.1 g.2) fun g=>?_
 refine (XRun.sound ok (round g.1 g.2)).mono fun e D' σ' H' q=>?_
 cases e with
 | normal=>obtain ⟨h1,g',l,h2,h3,h4,h5⟩:=q;exact ⟨h1,⟨g',h2⟩,l,h3,h4,qL h5⟩
 | _=>exact q
theorem vB.go {G : Type} {I : G -> Prop} {L : G -> List (Nat × AV)} {hp : G -> List Blk} {μ : G -> Nat} {g : G} (g' : G) (l : List Blk) (h1 : I g') (h2 : μ g' < μ g) (h3 : hp g' ++ l = H) (h4 : SubF P (hp g').length H (L g') σ) : vB P I L hp μ g [] σ H:=⟨rfl,g',l,h1,h2,h3,h4⟩
theorem Walk.keep {c : Code} (ok : zA P T) (own : List Nat) (H1 l : List Blk) (L : List (Nat × AV)) (hH : H1 ++ l = H) (hlow : ∀ x ∈ H1,x.low H1.length = true) (hs : SubF P H1.length H L σ) (hD : D = []) (x : XRun P T N ρ own c Q D (stX L) (H1 ++ l.map fun _=>.dead)) : Walk P N ρ c Q D σ H:=by
 subst hH;subst hD
 constructor
 intro E h β a w s
 have hd : ∀ (l : List Blk) (i : Nat) x,(l.map fun _=>Blk.dead)[i]? = some x -> x = .dead:=fun l i x e=>by
  rw [List.getElem?_map] at e
  cases hx : l[i]? with
  | none=>rw [hx] at e;cases e
  | some y=>rw [hx] at e;cases e;rfl
 have hlen : (l.map fun _=>Blk.dead).length = l.length:=List.length_map _
 have X : Ext h β (H1 ++ l) (yx H1.length h β (H1 ++ l) w) β (H1 ++ l.map fun _=>.dead):=by
  refine ⟨fun b o e=>kE s.sr e,by simp,fun i x x' e e'=>?_⟩
  by_cases hi : i < H1.length
  ·rw [List.getElem?_append_left hi] at e e'
   rw [e] at e';cases e';exact Blk.to_refl _ _ _
  ·rw [List.getElem?_append_right (by omega)] at e'
   have:=hd _ _ _ e'
   subst this
   cases x <;> first | rfl | trivial|exact .inl rfl
 have s1:=s.sr.allN hlow
 have X1 : Ext (yx H1.length h β (H1 ++ l) w) β H1 (yx H1.length h β (H1 ++ l) w) β (H1 ++ l.map fun _=>.dead):=
  ⟨fun _ _ e=>e,by simp,fun i x x' e e'=>by rw [List.getElem?_append_left (List.getElem?_eq_some_iff.1 e).1,e] at e';cases e';exact Blk.to_refl _ _ _⟩
 have hbo : ∀ i b,blkOf β (H1 ++ l.map fun _=>.dead) i = some b -> blkOf β H1 i = some b:=fun i b e=>by
  have hlt:=(yr e).1
  by_cases hi : i < H1.length
  ·rw [<- e];exact (yK rfl (List.getElem?_append_left hi)).symm
  ·exfalso
   unfold blkOf at e
   cases hx : (H1 ++ l.map fun _=>Blk.dead)[i]? with
   | none=>rw [hx] at e;cases e
   | some x =>
     rw [hx] at e
     rw [List.getElem?_append_right (by omega)] at hx
     have:=hd _ _ _ hx
     subst this;cases e
 have s2 : SR P E (yx H1.length h β (H1 ++ l) w) β (H1 ++ l.map fun _=>.dead) w:=by
  refine s1.grown X1 s1.env s1.imm (fun i x e=>?_) (fun i j b e1 e2=>s1.own i j b (hbo _ _ e1) (hbo _ _ e2)) (fun i b e=>s1.fresh i b (hbo _ _ e)) s1.frm (fun i b e=>s1.fro i b (hbo _ _ e))
  by_cases hi : i < H1.length
  ·rw [List.getElem?_append_left hi] at e;exact .inl ⟨e,rfl,fun _ _=>rfl⟩
  ·rw [List.getElem?_append_right (by omega)] at e
   have:=hd _ _ _ e
   subst this;exact .inr trivial
 refine wpIn_mono (XRun.sound ok x E _ β a w ⟨s2,fun t r e=>?_,s.size,s.df.ext X⟩) fun _ _ _=>Conc.ext X
 obtain ⟨r0,e1,e2⟩:=qL hs t r e
 obtain ⟨v,h1,h2⟩:=s.fits t r0 e1
 rcases e2 with e2 | ⟨rfl,e2⟩
 ·exact ⟨v,h1,e2 E h β w s.sr v h2 _⟩
 ·refine ⟨v,h1,X1.rep (Rep.cut (l:=l) ?_ e2)⟩
  have XA : Ext h β (H1 ++ l) (yx H1.length h β (H1 ++ l) w) β (H1 ++ l):=⟨fun b o e=>kE s.sr e,Nat.le_refl _,fun i x x' e e'=>by rw [e] at e';cases e';exact Blk.to_refl _ _ _⟩
  exact XA.rep h2
end
end GA
end
section
namespace GA
open Go Go.RowKit Go.Proofs
def cmpI (a b : Int) : Int:=if a < b then -1 else if b < a then 1 else 0
def cmpL : List Int -> List Int -> Int
 | [],[]=>0
 | [],_ :: _=>-1
 | _ :: _,[]=>1
 | x :: xs,y :: ys=>if x < y then -1 else if y < x then 1 else cmpL xs ys
theorem isNaN_c (a : Int) : Comp Tryz.prog 112 [.int .i64 a] (.bool false):=by
 refine Comp.body (T:=tab) (res:=[.tmp 2]) zb [] Tryz.func112 rfl (by kernel_rfl) Tryz.ntmps112 rfl (by simp only [List.length_cons,List.length_nil];decide) (by rfl) ?_;conv=>whnf
 exact XOut.bool (by simp)
theorem zcs (a b : Int) : Comp Tryz.prog 90 [.int .i64 a,.int .i64 b] (.int .i64 (cmpI a b)):=by
 refine Comp.body (T:=tab) (res:=[.tmp 4]) zb [] Tryz.func90 rfl (by kernel_rfl) Tryz.ntmps90 rfl (by simp only [List.length_cons,List.length_nil];decide) (by rfl) ?_;conv=>whnf
 repeat' first|((with_reducible apply XBr.ff);conv=>whnf)|((with_reducible apply XBr.dec) <;> (intro h;first|(exfalso;omega)|((try simp only [List.length_map] at h);first|(exfalso;omega)|(conv=>whnf))))|((refine za.ret (isNaN_c _) ?_);conv=>whnf)|fail
 all_goals refine XOut.int ?_;unfold cmpI;split <;> first | rfl | omega|(split <;> first | rfl | omega)
theorem zbJ {xs ys : List Int} {k : Nat} (hx : k < xs.length) (hy : k < ys.length) : cmpL (xs.drop k) (ys.drop k) = if xs.getD k default < ys.getD k default then -1 else if ys.getD k default < xs.getD k default then 1 else cmpL (xs.drop (k + 1)) (ys.drop (k + 1)):=by
 rw [jy hx,jy hy];rfl
theorem zbK {xs ys : List Int} {k : Nat} (hx : k < xs.length) (hy : ys.length <= k) : cmpL (xs.drop k) (ys.drop k) = 1:=by
 rw [jy hx,List.drop_of_length_le hy];rfl
theorem zag {xs ys : List Int} {k : Nat} (hx : xs.length <= k) (hy : k < ys.length) : cmpL (xs.drop k) (ys.drop k) = -1:=by
 rw [jy hy,List.drop_of_length_le hx];rfl
theorem zca {xs ys : List Int} {k : Nat} (hx : xs.length <= k) (hy : ys.length <= k) : cmpL (xs.drop k) (ys.drop k) = 0:=by
 rw [List.drop_of_length_le hy,List.drop_of_length_le hx];rfl
theorem compare_c (n1 n2 : Bool) (xs ys : List Int) (hx : xs.length <= 100000) (hy : ys.length <= 100000) : Comp Tryz.prog 41 [.sl n1 (ints xs),.sl n2 (ints ys)] (.int .i64 (cmpL xs ys)):=by
 have e1 : ((ints xs).length : Int) = xs.length:=by rw [List.length_map]
 have e2 : ((ints ys).length : Int) = ys.length:=by rw [List.length_map]
 refine Comp.body (T:=tab) (res:=[.tmp 4]) zb [] Tryz.func41 rfl (by kernel_rfl) Tryz.ntmps41 rfl (by simp only [List.length_cons,List.length_nil];decide) (by simp only [lowL,AV.low,lowI];rfl) ?_;conv=>whnf
 skip
 refine Walk.loop zb [] (fun k : Nat=>k <= xs.length /\ k <= ys.length /\ cmpL xs ys = cmpL (xs.drop k) (ys.drop k)) (fun k=>[(0,.sl n1 (ints xs)),(1,.sl n2 (ints ys)),(9,.sl n1 (ints xs)),(10,natA xs.length),(11,natA k)]) (fun _=>[]) (fun k=>xs.length - k) 0 ⟨Nat.zero_le _,Nat.zero_le _,by rw [List.drop_zero,List.drop_zero]⟩ rfl ⟨rfl,rfl,rfl,congrArg (fun n=>some (AV.int .i64 n)) e1,rfl,trivial⟩ ?_
 rintro k ⟨hk,hk2,he⟩
 have q1:=fun h h'=>zbJ (xs:=xs) (ys:=ys) (k:=k) h h'
 have q2:=fun h h'=>zbK (xs:=xs) (ys:=ys) (k:=k) h h'
 have q3:=fun h h'=>zag (xs:=xs) (ys:=ys) (k:=k) h h'
 have q4:=fun h h'=>zca (xs:=xs) (ys:=ys) (k:=k) h h'
 conv=>whnf
 repeat' first|((with_reducible apply XBr.dec) <;> (intro h;first|(exfalso;omega)|((try simp only [List.length_map] at h);first|(exfalso;omega)|(conv=>whnf))))|((with_reducible apply XBr.bne) <;> (intro h;first|(exfalso;omega)|(conv=>whnf)))|((first|(with_reducible refine XInt.i64 (by omega) (by omega) ?_)|((with_reducible refine XIx.nat ?_ ?_ ?_);omega;(intro _;rfl))|(refine za.ret (zcs _ _) ?_));conv=>whnf)|fail
 ·rw [he,q2 (by omega) (by omega)];exact XOut.int rfl
 ·have h' : cmpI (xs.getD k default) (ys.getD k default) ≠ 0:=h
  refine XOut.int ?_
  rw [he,q1 (by omega) (by omega)]
  show cmpI (xs.getD k default) (ys.getD k default) = _
  generalize xs.getD k default = a at h' ⊢
  generalize ys.getD k default = b at h' ⊢
  unfold cmpI at h' ⊢
  split
  ·rfl
  ·split
   ·rfl
   ·rename_i h1 h2;rw [if_neg h1,if_neg h2] at h';exact absurd rfl h'
 ·have h' : cmpI (xs.getD k default) (ys.getD k default) = 0:=h
  have h2 : ¬ xs.getD k default < ys.getD k default /\ ¬ ys.getD k default < xs.getD k default:=by
   generalize xs.getD k default = a at h' ⊢
   generalize ys.getD k default = b at h' ⊢
   unfold cmpI at h'
   split at h'
   ·cases h'
   ·split at h'
    ·cases h'
    ·omega
  rw [q1 (by omega) (by omega),if_neg h2.1,if_neg h2.2] at he
  exact zh.go (k + 1) ⟨by omega,by omega,he⟩ (by omega) rfl ⟨rfl,rfl,rfl,rfl,rfl,trivial⟩
 ·rw [he,q3 (by omega) (by omega)];exact XOut.int rfl
 ·rw [he,q4 (by omega) (by omega)];exact XOut.int rfl
theorem before_c (n1 n2 : Bool) (xs ys : List Int) (hx : xs.length <= 100000) (hy : ys.length <= 100000) : Comp Tryz.prog 107 [.sl n1 (ints xs),.sl n2 (ints ys)] (.bool (decide (cmpL xs ys < 0))):=by
 have e1 : ((ints xs).length : Int) = xs.length:=by rw [List.length_map]
 have e2 : ((ints ys).length : Int) = ys.length:=by rw [List.length_map]
 refine Comp.body (T:=tab) (res:=[.tmp 4]) zb [] Tryz.func107 rfl (by kernel_rfl) Tryz.ntmps107 rfl (by simp only [List.length_cons,List.length_nil];decide) (by simp only [lowL,AV.low,lowI];rfl) ?_;conv=>whnf
 skip
 refine Walk.loop zb [] (fun k : Nat=>k <= xs.length /\ k <= ys.length /\ cmpL xs ys = cmpL (xs.drop k) (ys.drop k)) (fun k=>[(0,.sl n1 (ints xs)),(1,.sl n2 (ints ys)),(5,natA k)]) (fun _=>[]) (fun k=>xs.length - k) 0 ⟨Nat.zero_le _,Nat.zero_le _,by rw [List.drop_zero,List.drop_zero]⟩ rfl ⟨rfl,rfl,rfl,trivial⟩ ?_
 rintro k ⟨hk,hk2,he⟩
 have q1:=fun h h'=>zbJ (xs:=xs) (ys:=ys) (k:=k) h h'
 have q2:=fun h h'=>zbK (xs:=xs) (ys:=ys) (k:=k) h h'
 have q3:=fun h h'=>zag (xs:=xs) (ys:=ys) (k:=k) h h'
 have q4:=fun h h'=>zca (xs:=xs) (ys:=ys) (k:=k) h h'
 conv=>whnf
 repeat' first|((first|(with_reducible apply XBr.tt)|(with_reducible apply XBr.ff));conv=>whnf)|((with_reducible apply XBr.dec) <;> (intro h;first|(exfalso;omega)|((try simp only [List.length_map] at h);first|(exfalso;omega)|(conv=>whnf))))|fail
 ·apply Walk.drawX zb zk [] [] (hsK _) [_,_,_,_,_,_,_,_,_] (by kernel_rfl) rfl
  ·skip
   repeat' first|(((with_reducible refine XIx.nat ?_ ?_ ?_);omega;(intro _;rfl));conv=>whnf)|(with_reducible apply XAnd.mk)|((first|(with_reducible apply Chk.go)|(with_reducible apply ChkA.go));conv=>whnf)|(exact zg.mk rfl rfl)|(with_reducible exact trivial)|fail
  ·skip
   repeat' first|(with_reducible apply XAnd.mk)|((first|(with_reducible apply ChkF.go)|(with_reducible apply ChkB.go));conv=>whnf)|(with_reducible exact trivial)|fail
  conv=>whnf
  repeat' first|((with_reducible apply XBr.bne) <;> (intro h;first|(exfalso;omega)|(conv=>whnf)))|((with_reducible refine XInt.i64 (by omega) (by omega) ?_);conv=>whnf)|fail
  ·have hne : xs.getD k default ≠ ys.getD k default:=h
   apply Walk.drawX zb zk [] [] (hsK _) [_,_,_,_,_,_,_,_,_,_] (by kernel_rfl) rfl
   ·skip
    repeat' first|(((with_reducible refine XIx.nat ?_ ?_ ?_);omega;(intro _;rfl));conv=>whnf)|(with_reducible apply XAnd.mk)|((first|(with_reducible apply Chk.go)|(with_reducible apply ChkA.go));conv=>whnf)|(exact zg.mk rfl rfl)|(with_reducible exact trivial)|fail
   ·skip
    repeat' first|(with_reducible apply XAnd.mk)|((first|(with_reducible apply ChkF.go)|(with_reducible apply ChkB.go));conv=>whnf)|(with_reducible exact trivial)|fail
   conv=>whnf
   skip
   refine XOut.bool ?_
   rw [he,q1 (by omega) (by omega)]
   show decide (xs.getD k default < ys.getD k default) = _
   generalize xs.getD k default = a at hne ⊢
   generalize ys.getD k default = b at hne ⊢
   by_cases hab : a < b
   ·rw [if_pos hab];simp [hab]
   ·rw [if_neg hab,if_pos (by omega)];simp [hab]
  ·have hne : xs.getD k default = ys.getD k default:=h
   rw [q1 (by omega) (by omega),if_neg (by omega),if_neg (by omega)] at he
   exact zh.go (k + 1) ⟨by omega,by omega,he⟩ (by omega) rfl ⟨rfl,rfl,rfl,trivial⟩
 ·refine XOut.bool ?_
  rw [he,q2 (by omega) (by omega)];simp;omega
 ·refine XOut.bool ?_
  by_cases hl : xs.length < ys.length
  ·rw [he,q3 (by omega) (by omega)];simp;omega
  ·rw [he,q4 (by omega) (by omega)];simp;omega
def tabK (m : Nat) (f : Nat -> Bool) (k : Nat) : List Bool:=(List.range m).map fun i=>decide (i < k) && f i
theorem wv (m : Nat) (f : Nat -> Bool) (k : Nat) : (tabK m f k).length = m:=by simp [tabK]
theorem zbZ (m : Nat) (f : Nat -> Bool) : tabK m f 0 = List.replicate m false:=by
 apply List.ext_getElem (by simp [tabK]);intro i h1 h2;simp [tabK]
theorem zd8 {m : Nat} {f : Nat -> Bool} {k i : Nat} (h : i < m) : (tabK m f k).getD i default = (decide (i < k) && f i):=by
 unfold tabK;rw [List.getD_eq_getElem?_getD,List.getElem?_map,List.getElem?_range h];rfl
theorem zd6 {m : Nat} {f : Nat -> Bool} {k : Nat} (h : k < m) {b : Bool} (hb : b = f k) : (tabK m f k).set k b = tabK m f (k + 1):=by
 refine y5 (d:=default) (by rw [List.length_set,wv,wv]) fun j hj=>?_
 rw [List.length_set,wv] at hj
 rw [zd8 hj,List.getD_eq_getElem?_getD,List.getElem?_set]
 by_cases e : k = j
 ·subst e;rw [if_pos rfl,if_pos (by rw [wv];exact h),hb];simp
 ·rw [if_neg e,<- List.getD_eq_getElem?_getD,zd8 hj]
  congr 1
  rw [Bool.eq_iff_iff];simp;omega
theorem zen (m : Nat) (f : Nat -> Bool) {k : Nat} (h : m <= k) : tabK m f k = (List.range m).map f:=by
 apply List.ext_getElem (by simp [tabK]);intro i h1 h2;simp [tabK] at h1 ⊢;omega
theorem zbc (l : Ld) (s : Nat) (h1 : l.sacks.length <= 62) (hs : s < 4611686018427387904) : Comp Tryz.prog 100 [ldA l,natA s] (.sl false (bools (z8 l.sacks.length s))):=by
 have e2 : ((l.sacks.map skA).length : Int) = l.sacks.length:=by rw [List.length_map]
 refine Comp.body (T:=tab) (res:=[.tmp 4]) zb [] Tryz.func100 rfl (by kernel_rfl) Tryz.ntmps100 rfl (by simp only [List.length_cons,List.length_nil];decide) (by simp only [lowL,AV.low,ldL];rfl) ?_;conv=>whnf
 repeat' first|((with_reducible refine zj.mk ?_ ?_);(first | omega | rfl | decide|exact ⟨rfl,by decide,rfl⟩|exact zz _|exact zp _|exact zq _|(unfold Room;constructor <;> ((try simp) <;> omega))|exact ⟨rfl,by simp only [List.length_map],by unfold Room;constructor <;> ((try simp) <;> omega)⟩|exact ⟨by omega,by omega,by unfold Room;constructor <;> ((try simp) <;> omega)⟩);conv=>whnf)|fail
 refine Walk.loop zb [] (fun k : Nat=>k <= l.sacks.length) (fun k=>[(4,.sl true []),(5,.gr 0 l.sacks.length),(1,natA (s / 2 ^ k)),(6,natA k)]) (fun k=>[.grow 4 false (bools (tabK l.sacks.length (fun i=>s.testBit i) k))]) (fun k=>l.sacks.length - k) 0 (Nat.zero_le _) ?_ ⟨rfl,?_,?_,rfl,trivial⟩ ?_
 ·rw [zbZ,show l.sacks.length = (((l.sacks.map skA).length : Int)).toNat by omega]
  congr 4;simp
 ·exact congrArg (fun n=>some (AV.gr 0 n)) (by omega)
 ·show some (natA s) = some (natA (s / 2 ^ 0));rw [Nat.pow_zero,Nat.div_one]
 intro k hk
 have hl:=wv l.sacks.length (fun i=>s.testBit i) k
 have hst:=fun h b hb=>zd6 (m:=l.sacks.length) (f:=fun i=>s.testBit i) (k:=k) h (b:=b) hb
 have hal:=fun h=>zen l.sacks.length (fun i=>s.testBit i) (k:=k) h
 have hle : s / 2 ^ k <= s:=Nat.div_le_self ..
 have hsucc : s / 2 ^ (k + 1) = s / 2 ^ k / 2:=by rw [Nat.pow_succ,Nat.div_div_eq_div_mul]
 have htb : s.testBit k = decide (s / 2 ^ k % 2 = 1):=Nat.testBit_eq_decide_div_mod_eq
 generalize tabK l.sacks.length (fun i=>s.testBit i) k = bs at hl hst hal
 generalize s / 2 ^ k = r at hle hsucc htb
 have hm : (r : Int).tmod 2 = ((r % 2 : Nat) : Int):=by rw [Int.tmod_eq_emod_of_nonneg (by omega)];omega
 have hd : (r : Int).tdiv 2 = ((r / 2 : Nat) : Int):=by rw [Int.tdiv_eq_ediv_of_nonneg (by omega)];omega
 conv=>whnf
 repeat' first|((with_reducible apply XBr.dec) <;> (intro h;first|(exfalso;omega)|((try simp only [List.length_map] at h);first|(exfalso;omega)|(conv=>whnf))))|((with_reducible refine XInt.i64 (by omega) (by omega) ?_);conv=>whnf)|((with_reducible refine zj.mk ?_ ?_);(first | omega | rfl | decide|exact ⟨rfl,by decide,rfl⟩|exact zz _|exact zp _|exact zq _|(unfold Room;constructor <;> ((try simp) <;> omega))|exact ⟨rfl,by simp only [List.length_map],by unfold Room;constructor <;> ((try simp) <;> omega)⟩|exact ⟨by omega,by omega,by unfold Room;constructor <;> ((try simp) <;> omega)⟩);conv=>whnf)|((first|(refine zj.mk (by rw [List.length_map];exact hl) ?_)|(refine zj.mk ⟨by rw [List.length_map];exact hl,rfl,by omega,by omega⟩ ?_)|(refine XPut.bools bs _ rfl hl.symm (by omega) ?_));conv=>whnf)|fail
 ·refine zh.go (k + 1) (by omega) (by omega) ?_ ⟨rfl,rfl,?_,rfl,trivial⟩
  ·rw [<- hst (by omega) ((r : Int).tmod 2 == 1) (by rw [hm,htb,Bool.eq_iff_iff];simp;omega)];rfl
  ·rw [hsucc];rfl
 ·rw [hal (by omega)] at hl ⊢
  exact ⟨Froz.grow rfl (by rw [List.length_map];exact hl) (jI _)⟩
end GA
end
