/- Part 4 of a proof: S10, S11, S12, Abs26, Abs27, S13, S14, Abs28, S15, Abs29, S16, S17, S18, Abs30, Abs31. -/
import Derived.Test.YtnjobcijpmnloaaGreatP3
import Derived.WalkKit
import Derived.ProofKit
import Derived.OpenShut
import Derived.ChangeArms
import Derived.WideKeyArgs
import Derived.Deep.Slices
set_option linter.unusedVariables false
set_option linter.unusedSimpArgs false
set_option maxRecDepth 8000
section
namespace GA
open Go Go.RowKit Go.Proofs
theorem wG {xs : List Nat} {i : Nat} {k : List AV -> Prop} (hi : i < xs.length) (h : k (.int .i64 (xs.getD i 0 : Nat) :: (nats xs).drop (0 + i * 1 + 1))) : xdrop (0 + i * 1) (nats xs) k:=
 zdV _ (by have:=zcX (xs:=xs) (i:=i) hi [];rw [List.append_nil] at this;rw [Nat.zero_add];exact this) h
theorem gT {xs : List Nat} {i : Nat} {v : Int} {k : List AV -> Prop} (m : Nat) (hv : v = (m : Int)) (hi : i < xs.length) (h : k (nats (xs.set i m))) : xspl (nats xs) (0 + i * 1) [.int .i64 v] k:=by
 subst hv
 refine qW _ (by simp;omega) ?_ h
 rw [Nat.zero_add,Nat.mul_one]
 have e : (nats xs).set i (natA m) = nats (xs.set i m):=(List.map_set ..).symm
 rw [<- e]
 have hl : i < (nats xs).length:=by simpa using hi
 rw [List.set_eq_take_append_cons_drop,if_pos hl]
 simp [splice,natA]
theorem jq : ∀ {n : Nat} {cs : List AV} {k : List AV -> Prop},cs.length = n -> k cs -> xtk n cs k
 | 0,[],_,_,h=>h
 | n + 1,c :: cs,k,hl,h=>jq (n:=n) (cs:=cs) (k:=fun l=>k (c :: l)) (by simpa using hl) h
 | 0,_ :: _,_,hl,_=>by simp at hl
 | n + 1,[],_,hl,_=>by simp at hl
theorem zaj : ∀ {n : Nat} {cs : List AV} {A : Prop},cs.length = n -> A -> xn n cs A
 | 0,[],_,_,h=>h
 | n + 1,c :: cs,A,hl,h=>zaj (n:=n) (cs:=cs) (A:=A) (by simpa using hl) h
 | 0,_ :: _,_,hl,_=>by simp at hl
 | n + 1,[],_,hl,_=>by simp at hl
theorem ga {c vs : List AV} {k : List AV -> Prop} (hl : vs.length = c.length) (h : k vs) : xspl c 0 vs k:=
 qW vs (by omega) (by simp [splice,hl]) h
def zC (b : List Nat) (p : Int × Int) : List Nat:=
 let all:=b.getD p.1.toNat 0 ||| b.getD p.2.toNat 0
 b.mapIdx fun i x=>if all / 2 ^ i % 2 = 1 then x ||| all else x
def zE (l : Ld) (b : List Nat) : List Nat:=l.wth.foldl zC b
def hsK (H : List Blk) : List Bool -> List Blk:=fun _=>H
theorem jr (b : List Nat) (p : Int × Int) : (zC b p).length = b.length:=by simp [zC]
def kd (l : Ld) (b : List Nat) (i : Nat) : List Nat:=(l.wth.take i).foldl zC b
theorem gn : ∀ (ps : List (Int × Int)) (b : List Nat),(ps.foldl zC b).length = b.length
 | [],_=>rfl
 | p :: ps,b=>by rw [List.foldl_cons,gn ps,jr]
def jm (all : Nat) (b : List Nat) (j : Nat) : List Nat:=b.mapIdx fun i x=>if i < j /\ all / 2 ^ i % 2 = 1 then x ||| all else x
theorem joinP_len (all : Nat) (b : List Nat) (j : Nat) : (jm all b j).length = b.length:=by simp [jm]
theorem zeP (all : Nat) (b : List Nat) : jm all b 0 = b:=by
 unfold jm;apply List.ext_getElem (by simp);intro i h1 h2;simp
theorem joinP_at (all : Nat) (b : List Nat) (j : Nat) (hj : j < b.length) : (jm all b j).getD j 0 = b.getD j 0:=by
 unfold jm
 rw [List.getD_eq_getElem?_getD,List.getElem?_mapIdx,List.getD_eq_getElem?_getD,List.getElem?_eq_getElem hj]
 simp
theorem joinP_hit (all : Nat) (b : List Nat) (j : Nat) (hj : j < b.length) (hb : all / 2 ^ j % 2 = 1) : (jm all b j).set j (b.getD j 0 ||| all) = jm all b (j + 1):=by
 unfold jm;apply List.ext_getElem (by simp)
 intro i h1 h2
 simp only [List.getElem_set,List.getElem_mapIdx]
 by_cases h : j = i
 ·subst h;rw [if_pos rfl,if_pos ⟨by omega,hb⟩,List.getD_eq_getElem?_getD,List.getElem?_eq_getElem hj];rfl
 ·rw [if_neg h]
  by_cases h3 : i < j
  ·simp [h3,show i < j + 1 by omega]
  ·rw [if_neg (fun hh=>h3 hh.1),if_neg (fun hh=>by omega)]
theorem zev (all : Nat) (b : List Nat) (j : Nat) (hb : ¬ all / 2 ^ j % 2 = 1) : jm all b j = jm all b (j + 1):=by
 unfold jm;apply List.ext_getElem (by simp)
 intro i h1 h2
 simp only [List.getElem_mapIdx]
 by_cases h : j = i
 ·subst h;rw [if_neg (fun hh=>hb hh.2),if_neg (fun hh=>hb hh.2)]
 ·by_cases h3 : i < j
  ·simp [h3,show i < j + 1 by omega]
  ·rw [if_neg (fun hh=>h3 hh.1),if_neg (fun hh=>by omega)]
theorem zeF (b : List Nat) (p : Int × Int) (hb : b.length = 9) : jm (b.getD p.1.toNat 0 ||| b.getD p.2.toNat 0) b 9 = zC b p:=by
 unfold jm zC;apply List.ext_getElem (by simp)
 intro i h1 h2
 have : i < 9:=by simpa [hb] using h1
 simp only [List.getElem_mapIdx,this,true_and]
theorem za7 (b : List Nat) (p : Int × Int) (hs : ∀ i,b.getD i 0 < 512) : ∀ i,(zC b p).getD i 0 < 512:=by
 intro i
 unfold zC
 rw [List.getD_eq_getElem?_getD,List.getElem?_mapIdx]
 rcases Nat.lt_or_ge i b.length with h | h
 ·rw [List.getElem?_eq_getElem h]
  have h1:=hs i
  rw [List.getD_eq_getElem?_getD,List.getElem?_eq_getElem h] at h1
  have hall : (b.getD p.1.toNat 0 ||| b.getD p.2.toNat 0) < 2 ^ 9:=Nat.or_lt_two_pow (hs _) (hs _)
  simp only [Option.map_some,Option.getD_some] at h1 ⊢
  split
  ·exact Nat.or_lt_two_pow (n:=9) h1 hall
  ·exact h1
 ·rw [List.getElem?_eq_none h];simp
theorem gW (l : Ld) (b : List Nat) (hs : ∀ i,b.getD i 0 < 512) (i : Nat) : ∀ j,(kd l b i).getD j 0 < 512:=by
 unfold kd
 generalize l.wth.take i = ps
 induction ps generalizing b with
 | nil=>exact hs
 | cons p ps ih=>rw [List.foldl_cons];exact ih _ (za7 b p hs)
theorem zey (l : Ld) (b : List Nat) (i : Nat) (hi : i < l.wth.length) : kd l b (i + 1) = zC (kd l b i) (l.wth.getD i default):=by
 unfold kd;rw [zS hi,List.foldl_append];rfl
theorem qy (l : Ld) (b : List Nat) (hb : b.length = 9) (hs : ∀ i,b.getD i 0 < 512) (hw : l.wth.length <= 8) (hp : ∀ p ∈ l.wth,0 <= p.1 /\ p.1 < 9 /\ 0 <= p.2 /\ p.2 < 9) : Comp Tryz.prog 84 [ldA l,.agg (nats b)] (.agg (nats (zE l b))):=by
 refine Comp.body' (T:=tab) (res:=[.cell 4 92]) zb [3] Tryz.func84 rfl (by kernel_rfl) Tryz.ntmps84 rfl (by simp only [List.length_cons,List.length_nil];decide) (by simp only [lowL,AV.low,ldL,lowN];rfl) ?_;conv=>whnf
 refine Walk.loopG zb [] (fun i : Nat=>i <= l.wth.length) (fun i=>[(2,.pim (ldC l)),(3,.ptr 0 0),(4,.ptr 1 0),(10,.sl l.nlw (l.wth.map prA)),(11,.int .i64 l.wth.length),(12,.int .i64 i)])
  (fun i=>[.cells (nats (kd l b i)),.cells (nats (List.replicate 9 0))]) (fun i=>l.wth.length - i) 0 (by omega) rfl ⟨rfl,rfl,rfl,rfl,by simp only [List.length_map];rfl,rfl,trivial⟩ ?_ ?_ ?_
 ·intro i _
  constructor
  ·intro x hx;simp at hx;rcases hx with rfl | rfl
   ·simp only [Blk.low,lowN]
   ·rfl
  ·intro p hp;simp at hp;rcases hp with rfl | rfl | rfl | rfl | rfl | rfl <;> simp [AV.low,kg,jo]
 ·intro i _;simp
 intro i hi
 have hlen : (kd l b i).length = 9:=by unfold kd;rw [gn];exact hb
 conv=>whnf
 repeat' first|((with_reducible apply XBr.dec) <;> (intro h;first|(exfalso;omega)|((try simp only [List.length_map] at h);first|(exfalso;omega)|(conv=>whnf))))|(((with_reducible refine XIx.nat ?_ ?_ ?_);omega;(intro _;rfl));conv=>whnf)|fail
 ·obtain ⟨p1,p2,p3,p4⟩:=hp _ (zu (xs:=l.wth) (i:=i) (d:=default) (by omega))
  apply Walk.drawX zb zk [] [] (hsK _) [_,_,_,_,_,_,_,_,_,_] (by kernel_rfl) rfl
  ·skip
   repeat' first|(with_reducible apply XAnd.mk)|((first|(with_reducible apply Chk.go)|(with_reducible apply ChkA.go));conv=>whnf)|(exact zg.mk rfl rfl)|(with_reducible exact trivial)|((first|((with_reducible refine XArr.ptr ?_ ?_ ?_);omega;omega)|(refine wG (by omega) ?_));conv=>whnf)|fail
  ·skip
   repeat' first|(with_reducible apply XAnd.mk)|((first|(with_reducible apply ChkF.go)|(with_reducible apply ChkB.go));conv=>whnf)|(with_reducible exact trivial)|fail
  ·conv=>whnf
   skip
   have hsm:=gW l b hs i
   have hx:=hsm (l.wth.getD i default).1.toNat
   have hy:=hsm (l.wth.getD i default).2.toNat
   have hall : ((kd l b i).getD (l.wth.getD i default).1.toNat 0 |||(kd l b i).getD (l.wth.getD i default).2.toNat 0) < 2 ^ 9:=Nat.or_lt_two_pow (n:=9) hx hy
   have hor:=wP (a:=(kd l b i).getD (l.wth.getD i default).1.toNat 0) (b:=(kd l b i).getD (l.wth.getD i default).2.toNat 0) (by omega) (by omega)
   generalize hae : ((kd l b i).getD (l.wth.getD i default).1.toNat 0 |||(kd l b i).getD (l.wth.getD i default).2.toNat 0) = all at hall hor
   refine Walk.loop zb [] (fun j : Nat=>j <= 9) (fun j=>[(2,.pim (ldC l)),(3,.ptr 0 0),(4,.ptr 1 0),(10,.sl l.nlw (l.wth.map prA)),(11,.int .i64 l.wth.length),(12,.int .i64 i),(7,.int .i64 all),(25,.int .i64 j)])
    (fun j=>[.cells (nats (jm all (kd l b i) j)),.cells (nats (List.replicate 9 0)),.cells [.int .i64 (l.wth.getD i default).1,.int .i64 (l.wth.getD i default).2]]) (fun j=>9 - j) 0 (by omega) (by simp only [zeP];rfl) ⟨rfl,rfl,rfl,rfl,rfl,rfl,congrArg (fun n=>some (AV.int .i64 n)) hor,rfl,trivial⟩ ?_
   intro j hj
   have hpl : (jm all (kd l b i) j).length = 9:=by rw [joinP_len];exact hlen
   have hbit:=zdb (set:=all) (p:=(j : Int)) (by omega) (by omega) (by omega)
   rw [Int.toNat_natCast] at hbit
   conv=>whnf
   repeat' first|((with_reducible apply XBr.dec) <;> (intro h;first|(exfalso;omega)|((try simp only [List.length_map] at h);first|(exfalso;omega)|(conv=>whnf))))|((with_reducible apply XBr.beq) <;> (intro h;first|(exfalso;omega)|(conv=>whnf)))|((with_reducible refine XInt.i64 (by omega) (by omega) ?_);conv=>whnf)|((with_reducible refine zj.mk ?_ ?_);(first | omega | rfl | decide|exact ⟨rfl,by decide,rfl⟩|exact zz _|exact zp _|exact zq _|(unfold Room;constructor <;> ((try simp) <;> omega))|exact ⟨rfl,by simp only [List.length_map],by unfold Room;constructor <;> ((try simp) <;> omega)⟩|exact ⟨by omega,by omega,by unfold Room;constructor <;> ((try simp) <;> omega)⟩);conv=>whnf)|(((with_reducible refine XArr.ptr ?_ ?_ ?_);omega;omega);conv=>whnf)|fail
   ·rw [Int.toNat_natCast,hbit] at h
    have hb1 : all / 2 ^ j % 2 = 1:=by omega
    refine wG (i:=j) (by omega) ?_
    conv=>whnf
    repeat' first|(((with_reducible refine XArr.ptr ?_ ?_ ?_);omega;omega);conv=>whnf)|fail
    have hlt:=hsm j
    refine gT ((kd l b i).getD j 0 ||| all) (by rw [joinP_at _ _ _ (by omega)];exact wP (by omega) (by omega)) (by omega) ?_
    conv=>whnf
    repeat' first|((with_reducible refine XInt.i64 (by omega) (by omega) ?_);conv=>whnf)|fail
    refine zh.go (j + 1) (by omega) (by omega) ?_ ⟨rfl,rfl,rfl,rfl,rfl,rfl,rfl,rfl,trivial⟩
    rw [Int.toNat_natCast,joinP_hit _ _ _ (by omega) hb1]
   ·rw [Int.toNat_natCast,hbit] at h
    have hb1 : ¬ all / 2 ^ j % 2 = 1:=by omega
    refine zh.go (j + 1) (by omega) (by omega) ?_ ⟨rfl,rfl,rfl,rfl,rfl,rfl,rfl,rfl,trivial⟩
    rw [<- zev _ _ _ hb1]
   ·have : j = 9:=by omega
    subst this
    refine zw.go (i + 1) [.cells [.int .i64 (l.wth.getD i default).1,.int .i64 (l.wth.getD i default).2]] (by omega) (by omega) ?_ ⟨rfl,rfl,rfl,rfl,rfl,rfl,trivial⟩
    rw [zey l b i (by omega),<- zeF _ _ hlen,hae];rfl
 ·have hie : i = l.wth.length:=by omega
  have hfin : kd l b i = zE l b:=by unfold kd zE;rw [hie,List.take_length]
  rw [hfin] at hlen ⊢
  refine jq (by rw [List.length_map];exact hlen) ?_
  conv=>whnf
  refine zaj (by rw [List.length_map];exact hlen) ?_
  conv=>whnf
  refine ga (by rw [List.length_map,List.length_map];exact hlen) ?_
  conv=>whnf
  refine jq (by rw [List.length_map];exact hlen) ?_
  conv=>whnf
  exact ⟨Froz.low (by show lowL 0 _ = true;exact lowN _)⟩
end GA
end
section
namespace GA
open Go Go.RowKit Go.Proofs
theorem XInt.eq {x y : Int} {k : AV -> Prop} (e : x = y) (h1 : -9223372036854775808 <= y) (h2 : y <= 9223372036854775807) (h : k (.int .i64 y)) : XInt .i64 x k:=by subst e;exact .i64 h1 h2 h
theorem pow9 {n : Nat} (h : n <= 9) : 2 ^ n <= 512 /\ 0 < 2 ^ n:=⟨Nat.pow_le_pow_right (n:=2) (by omega) h,Nat.two_pow_pos n⟩
theorem fb (d : Dk) (h : d.l.sacks.length <= 9) : Comp Tryz.prog 28 [.pim (zy d)] (.int .i64 ((2 ^ d.l.sacks.length - 1 : Nat) : Int)):=by
 refine Comp.body (T:=tab) (res:=[.tmp 2]) zb [] Tryz.func28 rfl (by kernel_rfl) Tryz.ntmps28 rfl (by simp only [List.length_cons,List.length_nil];decide) (by simp only [lowL,AV.low,yn];rfl) ?_;conv=>whnf
 repeat' first|((with_reducible refine zj.mk ?_ ?_);(first | omega | rfl | decide|exact ⟨rfl,by decide,rfl⟩|exact zz _|exact zp _|exact zq _|(unfold Room;constructor <;> ((try simp) <;> omega))|exact ⟨rfl,by simp only [List.length_map],by unfold Room;constructor <;> ((try simp) <;> omega)⟩|exact ⟨by omega,by omega,by unfold Room;constructor <;> ((try simp) <;> omega)⟩);conv=>whnf)|fail
 ·have:=pow9 h
  refine XInt.eq (y:=((2 ^ d.l.sacks.length : Nat) : Int)) (by rw [List.length_map];exact kw (by omega)) (by omega) (by omega) ?_
  conv=>whnf
  repeat' first|((with_reducible refine XInt.i64 (by omega) (by omega) ?_);conv=>whnf)|fail
  refine XOut.int ?_
  omega
theorem zcJ (d : Dk) (set : Nat) : Comp Tryz.prog 29 [.pim (zy d),.int .i64 set] (.fn 86 [.pim [.int .i64 set],.pim [.pim (zy d)]]):=by
 refine Comp.body (T:=tab) (res:=[.tmp 4]) zb [] Tryz.func29 rfl (by kernel_rfl) Tryz.ntmps29 rfl (by simp only [List.length_cons,List.length_nil];decide) (by simp only [lowL,AV.low,yn];rfl) ?_;conv=>whnf
 skip
 exact ⟨Froz.low (by show lowL 0 _ = true;simp only [lowL,AV.low,yn];rfl)⟩
end GA
end
section
namespace GA
open Go Go.RowKit Go.Proofs
def lowb (s : Nat) : Nat:=diff s (s - 1)
theorem low_all : ∀ s : Fin 512,iand .i64 (s.val : Int) (0 - (s.val : Int)) = ((lowb s.val : Nat) : Int):=by decide +kernel
theorem fH {s : Nat} (h : s < 512) : iand .i64 (s : Int) (0 - (s : Int)) = ((lowb s : Nat) : Int):=low_all ⟨s,h⟩
theorem vc.mono {P : Program} {i : Nat} {rs : List AV} {H : List Blk} {k k' : AV -> List Blk -> Prop} (x : vc P i rs H k) (hk : ∀ r H',k r H' -> k' r H') : vc P i rs H k':=
 ⟨x.1,fun E h β w b vs s r e=>let ⟨f,tmps,assign,body,h1,h2⟩:=x.2 E h β w b vs s r e;⟨f,tmps,assign,body,h1,h2.mono fun _ _=>Ends.mono hk⟩⟩
def jk (P : Program) (i : Nat) (K : List Blk -> Prop) : List Nat -> List Blk -> Prop
 | [],H=>K H
 | c :: cs,H=>wH P i [natA c] H fun r H'=>(r = .bool true /\ jk P i K cs H') \/ (r = .bool false /\ K H')
theorem jW (a b : Nat) : diff a b <= a:=by
 unfold diff
 have h : a ^^^ (a &&& b) = a &&& (a ^^^ b):=by
  apply Nat.eq_of_testBit_eq;intro i;simp only [Nat.testBit_xor,Nat.testBit_and]
  cases a.testBit i <;> cases b.testBit i <;> rfl
 rw [h];exact Nat.and_le_left
theorem or9 {a b : Nat} (ha : a < 512) (hb : b < 512) : a ||| b < 512:=Nat.or_lt_two_pow (n:=9) ha hb
theorem zc5 (s : Nat) : lowb s <= s:=jW ..
def ko (d : Dk) (set : Nat) : Nat -> Nat -> List Nat
 | 0,_=>[]
 | f + 1,rest=>(if zn d (rest ||| lowb set) then [rest ||| lowb set] else []) ++ (if rest = 0 then [] else ko d set f (diff ((rest - 1) &&& set) (lowb set)))
def yD (d : Dk) (set : Nat) : List Nat:=ko d set 512 (diff set (lowb set))
theorem je (d : Dk) (set f rest : Nat) : ko d set (f + 1) rest = (if zn d (rest ||| lowb set) then [rest ||| lowb set] else []) ++ (if rest = 0 then [] else ko d set f (diff ((rest - 1) &&& set) (lowb set))):=rfl
theorem zac (d : Dk) (ok : zdn d) (set i : Nat) (hs : set < 512) (H : List Blk) (K : List Blk -> Prop) (hK : jk Tryz.prog i K (yD d set) H) :
  za Tryz.prog 86 [.yld i,.pim [.int .i64 set],.pim [.pim (zy d)]] H fun _ H'=>K H':=by
 refine za.inl (T:=tab) (res:=[]) zb [] Tryz.func86 rfl (by kernel_rfl) Tryz.ntmps86 rfl (by simp only [List.length_append,List.length_cons,List.length_nil];decide) ?_;conv=>whnf
 repeat' first|((with_reducible refine XInt.i64 (by omega) (by omega) ?_);conv=>whnf)|fail
 have hl:=zc5 set
 have hd:=jW set (lowb set)
 have e1 : iand .i64 (set : Int) (0 - (set : Int)) = ((lowb set : Nat) : Int):=fH hs
 have e2 : iandn .i64 (set : Int) ((lowb set : Nat) : Int) = ((diff set (lowb set) : Nat) : Int):=ke (by omega) (by omega)
 refine Walk.loop zb [] (fun g : Nat × Nat × List Blk=>g.1 < 512 /\ g.1 < g.2.1 /\ jk Tryz.prog i K (ko d set g.2.1 g.1) g.2.2) (fun g=>[(0,.yld i),(1,.pim [.int .i64 set]),(2,.pim [.pim (zy d)]),(4,.int .i64 (lowb set : Nat)),(5,.int .i64 g.1)]) (fun g=>g.2.2) (fun g=>g.1) (diff set (lowb set),512,H) ⟨by dsimp only;omega,by dsimp only;omega,hK⟩ rfl ⟨rfl,rfl,rfl,congrArg (fun n=>some (AV.int .i64 n)) e1,?_,trivial⟩ ?_
 ·show some (AV.int .i64 (iandn .i64 (set : Int) (iand .i64 (set : Int) (0 - (set : Int))))) = _
  rw [e1,e2]
 rintro ⟨rest,f,H'⟩ ⟨h1,h2,h3⟩
 dsimp only at h1 h2 h3 ⊢
 conv=>whnf
 have e3 : ior .i64 (rest : Int) ((lowb set : Nat) : Int) = ((rest ||| lowb set : Nat) : Int):=wP (by omega) (by omega)
 have h4 : rest ||| lowb set < 512:=or9 h1 (by omega)
 have hf : f = (f - 1) + 1:=by omega
 rw [hf] at h3
 have hn:=jW ((rest - 1) &&& set) (lowb set)
 have hn2 : (rest - 1) &&& set <= rest - 1:=Nat.and_le_left
 have e5 : 0 < rest -> iandn .i64 (iand .i64 ((rest : Int) - 1) (set : Int)) ((lowb set : Nat) : Int) = ((diff ((rest - 1) &&& set) (lowb set) : Nat) : Int):=by
  intro h0
  have : (rest : Int) - 1 = ((rest - 1 : Nat) : Int):=by omega
  rw [this,w7 (by omega) (by omega),ke (by omega) (by omega)]
 rw [e3]
 refine za.ret (vJ d ok _ h4) ?_
 conv=>whnf
 repeat' first|((first|(with_reducible apply XBr.tt)|(with_reducible apply XBr.ff));conv=>whnf)|((with_reducible apply XBr.beq) <;> (intro h;first|(exfalso;omega)|(conv=>whnf)))|((with_reducible refine XInt.i64 (by omega) (by omega) ?_);conv=>whnf)|((with_reducible apply XBr.mk') <;> (intro h;conv=>whnf))|fail
 ·rw [e3]
  have hc : ko d set (f - 1 + 1) rest = (rest ||| lowb set) :: (if rest = 0 then [] else ko d set (f - 1) (diff ((rest - 1) &&& set) (lowb set))):=by
   rw [je,if_pos h];rfl
  rw [hc] at h3
  refine ⟨vc.mono h3.o ?_⟩
  rintro r H'' (⟨rfl,h5⟩ | ⟨rfl,h5⟩)
  ·conv=>whnf
   repeat' first|((first|(with_reducible apply XBr.tt)|(with_reducible apply XBr.ff));conv=>whnf)|(with_reducible apply XBr.not)|((with_reducible apply XBr.beq) <;> (intro h;first|(exfalso;omega)|(conv=>whnf)))|((with_reducible refine XInt.i64 (by omega) (by omega) ?_);conv=>whnf)|fail
   ·rename_i h0
    rw [if_pos (by omega)] at h5;exact h5
   ·rename_i h0
    rw [if_neg (by omega)] at h5
    refine zh.go (diff ((rest - 1) &&& set) (lowb set),f - 1,H'') ⟨by dsimp only;omega,by dsimp only;omega,h5⟩ (by dsimp only;omega) rfl ⟨rfl,rfl,rfl,rfl,?_,trivial⟩
    exact congrArg (fun n=>some (AV.int .i64 n)) (e5 (by omega))
  ·conv=>whnf
   repeat' first|((first|(with_reducible apply XBr.tt)|(with_reducible apply XBr.ff));conv=>whnf)|(with_reducible apply XBr.not)|fail
   exact h5
 ·have hc : ko d set (f - 1 + 1) rest = (if rest = 0 then [] else ko d set (f - 1) (diff ((rest - 1) &&& set) (lowb set))):=by
   rw [je,if_neg (by simp [*])];rfl
  rw [hc] at h3
  rename_i h0
  rw [if_pos (by omega)] at h3;exact h3
 ·have hc : ko d set (f - 1 + 1) rest = (if rest = 0 then [] else ko d set (f - 1) (diff ((rest - 1) &&& set) (lowb set))):=by
   rw [je,if_neg (by simp [*])];rfl
  rw [hc] at h3
  rename_i h0
  rw [if_neg (by omega)] at h3
  refine zh.go (diff ((rest - 1) &&& set) (lowb set),f - 1,H') ⟨by dsimp only;omega,by dsimp only;omega,h3⟩ (by dsimp only;omega) rfl ⟨rfl,rfl,rfl,rfl,?_,trivial⟩
  exact congrArg (fun n=>some (AV.int .i64 n)) (e5 (by omega))
end GA
end
section
namespace GA
open Go Go.RowKit
mutual
def AV.ren (ρ : Nat -> Nat) : AV -> AV
 | .ptr i o=>.ptr (ρ i) o
 | .gr i n=>.gr (ρ i) n
 | .gp i n e o=>.gp (ρ i) n e o
 | .os i m o n=>.os (ρ i) m o n
 | .mp i=>.mp (ρ i)
 | .yld i=>.yld (ρ i)
 | .pim cs=>.pim (renL ρ cs)
 | .sl nl cs=>.sl nl (renL ρ cs)
 | .fn f cs=>.fn f (renL ρ cs)
 | .bf f cs=>.bf f (renL ρ cs)
 | .agg cs=>.agg (renL ρ cs)
 | .tup cs=>.tup (renL ρ cs)
 | .im ks cs=>.im ks (renL ρ cs)
 | .bool b=>.bool b
 | .int k n=>.int k n
 | .nilp=>.nilp
 | .se=>.se
 | .nilm=>.nilm
 | .nilf=>.nilf
def renL (ρ : Nat -> Nat) : List AV -> List AV
 | []=>[]
 | x :: l=>x.ren ρ :: renL ρ l
end
theorem zF (ρ : Nat -> Nat) : ∀ l : List AV,renL ρ l = l.map (AV.ren ρ)
 | []=>rfl
 | x :: l=>by rw [renL,zF ρ l];rfl
def Blk.ren (ρ : Nat -> Nat) : Blk -> Blk
 | .dead=>.dead
 | .free=>.free
 | .cells cs=>.cells (renL ρ cs)
 | .grow t nl els=>.grow t nl (renL ρ els)
 | .map es=>.map (es.map fun p=>(p.1,p.2.ren ρ))
 | .pm es=>.pm (es.map fun p=>(p.1,p.2.ren ρ))
 | .raw o=>.raw o
 | .lp st pend f tm ps x y n=>.lp st pend f (tm.map fun p=>(p.1,p.2.ren ρ)) ps x y n
theorem AV.ren_one (ρ : Nat -> Nat) (a : AV) : (a.ren ρ).one = a.one:=by cases a <;> rfl
theorem AV.ren_cells (ρ : Nat -> Nat) (a : AV) : (a.ren ρ).cells = a.cells.map (AV.ren ρ):=by
 cases a <;> first | rfl|(simp only [AV.ren,AV.cells,zF];rfl) | simp only [AV.ren,AV.cells,zF]
theorem k8 (ρ : Nat -> Nat) (l : List AV) : flat (l.map (AV.ren ρ)) = (flat l).map (AV.ren ρ):=by
 induction l with
 | nil=>rfl
 | cons x l ih =>
   simp only [flat,List.map_cons,List.flatMap_cons,List.map_append] at ih ⊢
   rw [ih,AV.ren_cells]
theorem Blk.ren_free (ρ : Nat -> Nat) (x : Blk) : (x.ren ρ).isFree = x.isFree:=by cases x <;> rfl
theorem Blk.ren_rec (ρ : Nat -> Nat) (x : Blk) : (x.ren ρ).isRec = x.isRec:=by cases x <;> rfl
theorem Blk.ren_isMap (ρ : Nat -> Nat) (x : Blk) : (x.ren ρ).isMap = x.isMap:=by cases x <;> rfl
theorem AV.ren_low {ρ : Nat -> Nat} {n : Nat} (h : ∀ i,i < n -> ρ i = i) : ∀ {a : AV},a.low n = true -> a.ren ρ = a:=by
 intro a
 refine AV.rec (motive_1:=fun a=>a.low n = true -> a.ren ρ = a) (motive_2:=fun l=>lowL n l = true -> renL ρ l = l) ?_ ?_ ?_ ?_ ?_ ?_ ?_ ?_ ?_ ?_ ?_ ?_ ?_ ?_ ?_ ?_ ?_ ?_ ?_ ?_ ?_ a
 all_goals try (intros;rfl)
 ·intro i o hl;simp only [AV.low,decide_eq_true_eq] at hl;rw [AV.ren,h i hl]
 ·intro cs ih hl;rw [AV.ren,ih hl]
 ·intro nl cs ih hl;rw [AV.ren,ih hl]
 ·intro i o hl;simp only [AV.low,decide_eq_true_eq] at hl;rw [AV.ren,h i hl]
 ·intro i o e f hl;simp only [AV.low,decide_eq_true_eq] at hl;rw [AV.ren,h i hl]
 ·intro i hl;simp only [AV.low,decide_eq_true_eq] at hl;rw [AV.ren,h i hl]
 ·intro f cs ih hl;rw [AV.ren,ih hl]
 ·intro f cs ih hl;rw [AV.ren,ih hl]
 ·intro i m o n hl;simp only [AV.low,decide_eq_true_eq] at hl;rw [AV.ren,h i hl]
 ·intro i hl;simp only [AV.low,decide_eq_true_eq] at hl;rw [AV.ren,h i hl]
 ·intro cs ih hl;rw [AV.ren,ih hl]
 ·intro cs ih hl;rw [AV.ren,ih hl]
 ·intro ks cs ih hl;rw [AV.ren,ih hl]
 ·intro x l ih1 ih2 hl;simp only [lowL,Bool.and_eq_true] at hl;rw [renL,ih1 hl.1,ih2 hl.2]
theorem zaD {ρ : Nat -> Nat} {n : Nat} (h : ∀ i,i < n -> ρ i = i) {l : List AV} (hl : lowL n l = true) : renL ρ l = l:=by
 have:=AV.ren_low h (a:=.agg l) hl
 simpa [AV.ren] using this
theorem AV.ren_low0 {ρ : Nat -> Nat} {a : AV} (hl : a.low 0 = true) : a.ren ρ = a:=AV.ren_low (n:=0) (fun i hi=>by omega) hl
theorem wq {ρ : Nat -> Nat} {l : List AV} (hl : lowL 0 l = true) : renL ρ l = l:=zaD (n:=0) (fun i hi=>by omega) hl
structure Ren (ρ : Nat -> Nat) (β1 : Nat -> Value) (H1 : List Blk) (β : Nat -> Value) (H : List Blk) : Prop where
 m : ∀ (i : Nat) x1,H1[i]? = some x1 -> H[ρ i]? = some (x1.ren ρ)
 b : ∀ i,i < H1.length -> β (ρ i) = β1 i
section
variable {P : Program} {E : Env} {h : Nat -> Option Obj} {β β1 : Nat -> Value} {H H1 : List Blk} {w : World} {ρ : Nat -> Nat}
theorem Ren.live (R : Ren ρ β1 H1 β H) {i : Nat} (l : live H1 i) : live H (ρ i):=let ⟨x,h1,h2⟩:=l;⟨x.ren ρ,R.m i x h1,by rw [Blk.ren_free];exact h2⟩
theorem Ren.unlive (R : Ren ρ β1 H1 β H) {i : Nat} (l : GA.live H (ρ i)) (hi : i < H1.length) : GA.live H1 i:=by
 obtain ⟨x,h1,h2⟩:=l
 have h3:=R.m i _ (List.getElem?_eq_getElem hi)
 rw [h3] at h1;cases h1
 exact ⟨_,List.getElem?_eq_getElem hi,by rw [Blk.ren_free] at h2;exact h2⟩
theorem Ren.rep (R : Ren ρ β1 H1 β H) {a : AV} {v : Value} (x : Rep P h β1 H1 a v) : Rep P h β H (a.ren ρ) v:=by
 induction x with
 | bool b=>exact .bool b
 | int k n=>exact .int k n
 | nilp=>exact .nilp
 | @ptr i o b hi hb =>
   refine .ptr (R.live hi) fun cs e=>?_
   obtain ⟨x,hx,hf⟩:=hi
   rw [R.m i x hx] at e;rw [R.b i (List.getElem?_eq_some_iff.1 hx).1]
   cases x <;> simp only [Blk.ren,Option.some.injEq,reduceCtorEq] at e
   exact hb _ hx
 | pim us hone hb hc _ ih =>
   rw [AV.ren,zF]
   refine .pim us (fun x hx=>?_) hb (fun j x e=>?_) (fun j x e=>?_)
   ·obtain ⟨y,hy,rfl⟩:=List.mem_map.1 hx;rw [AV.ren_one];exact hone y hy
   ·rw [List.getElem?_map] at e;cases hq : ‹List AV›[j]? with | none=>simp [hq] at e | some y=>exact hc j y hq
   ·rw [List.getElem?_map] at e
    cases hq : ‹List AV›[j]? with
    | none=>simp [hq] at e
    | some y=>simp only [hq,Option.map_some,Option.some.injEq] at e;subst e;exact ih j y hq
 | slnil=>exact .slnil
 | slemp=>exact .slemp
 | @sl b off cap c t fz els w n us hn hne hb hw hw0 hone hcap hc _ ih =>
   rw [AV.ren,zF]
   refine .sl (w:=w) us (by rw [List.length_map];exact hn) (by simpa using hne) hb (fun e he=>?_) hw0 (fun x hx=>?_) (by rw [List.length_map];exact hcap) (fun j x e=>?_) (fun j x e=>?_)
   ·obtain ⟨y,hy,rfl⟩:=List.mem_map.1 he;rw [AV.ren_cells,List.length_map];exact hw y hy
   ·rw [k8] at hx;obtain ⟨y,hy,rfl⟩:=List.mem_map.1 hx;rw [AV.ren_one];exact hone y hy
   ·rw [k8,List.getElem?_map] at e;cases hq : (flat els)[j]? with | none=>simp [hq] at e | some y=>exact hc j y hq
   ·rw [k8,List.getElem?_map] at e
    cases hq : (flat els)[j]? with
    | none=>simp [hq] at e
    | some y=>simp only [hq,Option.map_some,Option.some.injEq] at e;subst e;exact ih j y hq
 | se=>exact .se
 | @gr i n v ho hi hv =>
   refine .gr ho (R.live hi) fun t nl els e=>?_
   obtain ⟨x,hx,hf⟩:=hi
   rw [R.m i x hx] at e;rw [R.b i (List.getElem?_eq_some_iff.1 hx).1]
   cases x <;> simp only [Blk.ren,Option.some.injEq,Blk.grow.injEq,reduceCtorEq] at e
   obtain ⟨rfl,rfl,rfl⟩:=e
   rw [zF,List.length_map];exact hv _ _ _ hx
 | @gp i n e o b q hi hv =>
   refine .gp (R.live hi) fun t nl els e=>?_
   obtain ⟨x,hx,hf⟩:=hi
   rw [R.m i x hx] at e;rw [R.b i (List.getElem?_eq_some_iff.1 hx).1]
   cases x <;> simp only [Blk.ren,Option.some.injEq,Blk.grow.injEq,reduceCtorEq] at e
   obtain ⟨rfl,rfl,rfl⟩:=e
   rw [zF,List.length_map];exact hv _ _ _ hx
 | nilm=>exact .nilm
 | @mp i r hi hb =>
   refine .mp (R.live hi) fun y e hy=>?_
   obtain ⟨x,hx,hf⟩:=hi
   rw [R.m i x hx] at e;rw [R.b i (List.getElem?_eq_some_iff.1 hx).1]
   cases e
   rw [Blk.ren_isMap] at hy
   exact hb _ hx hy
 | nilf=>exact .nilf
 | @yld i b hi hb =>
   refine .yld (R.live hi) fun y e hy=>?_
   obtain ⟨x,hx,hf⟩:=hi
   rw [R.m i x hx] at e;rw [R.b i (List.getElem?_eq_some_iff.1 hx).1]
   cases e
   rw [Blk.ren_rec] at hy
   exact hb _ hx hy
 | @fn f caps vs us hs hc _ ih =>
   rw [AV.ren,zF]
   refine .fn us (by rw [List.length_map];exact hs) (fun j x e=>?_) (fun j x e=>?_)
   ·rw [List.getElem?_map] at e;cases hq : caps[j]? with | none=>simp [hq] at e | some y=>exact hc j y hq
   ·rw [List.getElem?_map] at e
    cases hq : caps[j]? with
    | none=>simp [hq] at e
    | some y=>simp only [hq,Option.map_some,Option.some.injEq] at e;subst e;exact ih j y hq
 | @bf f caps vs us hs hc _ ih =>
   rw [AV.ren,zF]
   refine .bf us (by rw [List.length_map];exact hs) (fun j x e=>?_) (fun j x e=>?_)
   ·rw [List.getElem?_map] at e;cases hq : caps[j]? with | none=>simp [hq] at e | some y=>exact hc j y hq
   ·rw [List.getElem?_map] at e
    cases hq : caps[j]? with
    | none=>simp [hq] at e
    | some y=>simp only [hq,Option.map_some,Option.some.injEq] at e;subst e;exact ih j y hq
 | @os i m o n b q cap hi hn hc hg hz =>
   obtain ⟨x,hx,hf⟩:=id hi
   refine .os (R.live hi) hn (fun cs e hne=>?_) (fun t nl els e=>?_) fun ho t nl els e hlen=>?_
   ·rw [R.m i x hx] at e;rw [R.b i (List.getElem?_eq_some_iff.1 hx).1]
    cases x <;> simp only [Blk.ren,Option.some.injEq,reduceCtorEq] at e
    exact hc _ hx hne
   ·rw [R.m i x hx] at e;rw [R.b i (List.getElem?_eq_some_iff.1 hx).1]
    cases x <;> simp only [Blk.ren,Option.some.injEq,Blk.grow.injEq,reduceCtorEq] at e
    obtain ⟨rfl,rfl,rfl⟩:=e
    rw [zF,List.length_map];exact hg _ _ _ hx
   ·rw [R.m i x hx] at e;rw [R.b i (List.getElem?_eq_some_iff.1 hx).1]
    cases x <;> simp only [Blk.ren,Option.some.injEq,Blk.grow.injEq,reduceCtorEq] at e
    obtain ⟨rfl,rfl,rfl⟩:=e
    rw [zF,List.length_map] at hlen;exact hz ho _ _ _ hx hlen
 | @agg caps vs us hs hone hc _ ih =>
   rw [AV.ren,zF]
   refine .agg us (by rw [List.length_map];exact hs) (fun x hx=>?_) (fun j x e=>?_) (fun j x e=>?_)
   ·obtain ⟨y,hy,rfl⟩:=List.mem_map.1 hx;rw [AV.ren_one];exact hone y hy
   ·rw [List.getElem?_map] at e;cases hq : caps[j]? with | none=>simp [hq] at e | some y=>exact hc j y hq
   ·rw [List.getElem?_map] at e
    cases hq : caps[j]? with
    | none=>simp [hq] at e
    | some y=>simp only [hq,Option.map_some,Option.some.injEq] at e;subst e;exact ih j y hq
 | @tup caps vs us hs hc _ ih =>
   rw [AV.ren,zF]
   refine .tup us (by rw [List.length_map];exact hs) (fun j x e=>?_) (fun j x e=>?_)
   ·rw [List.getElem?_map] at e;cases hq : caps[j]? with | none=>simp [hq] at e | some y=>exact hc j y hq
   ·rw [List.getElem?_map] at e
    cases hq : caps[j]? with
    | none=>simp [hq] at e
    | some y=>simp only [hq,Option.map_some,Option.some.injEq] at e;subst e;exact ih j y hq
 | @im ks vs r ents clock us h0 h1 h2 h3 h4 _ ih =>
   rw [AV.ren,zF]
   refine .im us h0 (by rw [List.length_map];exact h1) h2 h3 (fun j q x e1 e2=>?_) (fun j x e=>?_)
   ·rw [List.getElem?_map] at e2;cases hq : vs[j]? with | none=>simp [hq] at e2 | some y=>exact h4 j q y e1 hq
   ·rw [List.getElem?_map] at e
    cases hq : vs[j]? with
    | none=>simp [hq] at e
    | some y=>simp only [hq,Option.map_some,Option.some.injEq] at e;subst e;exact ih j y hq
theorem jf {n : Nat} {l : List AV} (hl : lowL n l = true) {j : Nat} {x : AV} (e : l[j]? = some x) : x.low n = true:=zt.1 hl x (List.mem_of_getElem? e)
theorem yg {l : List AV} {j : Nat} {x : AV} (e : l[j]? = some x) : (l.map (AV.ren ρ))[j]? = some (x.ren ρ):=by rw [List.getElem?_map,e];rfl
theorem Ren.unrep (R : Ren ρ β1 H1 β H) {r : AV} {v : Value} (x : Rep P h β H r v) : ∀ {a : AV},a.ren ρ = r -> a.low H1.length = true -> Rep P h β1 H1 a v:=by
 induction x with
 | bool b=>intro a e hl;cases a <;> simp only [AV.ren,AV.bool.injEq,reduceCtorEq] at e;subst e;exact .bool _
 | int k n=>intro a e hl;cases a <;> simp only [AV.ren,AV.int.injEq,reduceCtorEq] at e;obtain ⟨rfl,rfl⟩:=e;exact .int _ _
 | nilp=>intro a e hl;cases a <;> simp only [AV.ren,reduceCtorEq] at e;exact .nilp
 | @ptr i o b hi hb =>
   intro a e hl;cases a <;> simp only [AV.ren,AV.ptr.injEq,reduceCtorEq] at e
   rename_i i0 o0
   obtain ⟨rfl,rfl⟩:=e
   simp only [AV.low,decide_eq_true_eq] at hl
   refine .ptr (R.unlive hi hl) fun cs e=>?_
   rw [<- R.b i0 hl];exact hb _ (R.m _ _ e)
 | @pim b off c t fz cs us hone hb hc _ ih =>
   intro a e hl;cases a <;> simp only [AV.ren,AV.pim.injEq,reduceCtorEq] at e
   rename_i cs0
   rw [zF] at e;subst e
   refine .pim us (fun x hx=>?_) hb (fun j x e=>?_) (fun j x e=>?_)
   ·rw [<- AV.ren_one ρ];exact hone _ (List.mem_map.2 ⟨x,hx,rfl⟩)
   ·exact hc j _ (yg e)
   ·exact ih j _ (yg e) rfl (jf hl e)
 | slnil=>intro a e hl;cases a <;> simp only [AV.ren,AV.sl.injEq,reduceCtorEq] at e;obtain ⟨rfl,e⟩:=e;rw [zF,List.map_eq_nil_iff] at e;subst e;exact .slnil
 | slemp=>intro a e hl;cases a <;> simp only [AV.ren,AV.sl.injEq,reduceCtorEq] at e;obtain ⟨rfl,e⟩:=e;rw [zF,List.map_eq_nil_iff] at e;subst e;exact .slemp
 | @sl b off cap c t fz els w n us hn hne hb hw hw0 hone hcap hc _ ih =>
   intro a e hl;cases a <;> simp only [AV.ren,AV.sl.injEq,reduceCtorEq] at e
   rename_i nl cs0
   obtain ⟨rfl,e⟩:=e
   rw [zF] at e;subst e
   rw [List.length_map] at hn hcap
   rw [k8] at hone hc
   refine .sl (w:=w) us hn (by simpa using hne) hb (fun e he=>?_) hw0 (fun x hx=>?_) hcap (fun j x e=>hc j _ (yg e)) (fun j x e=>?_)
   ·have:=hw _ (List.mem_map.2 ⟨e,he,rfl⟩);rwa [AV.ren_cells,List.length_map] at this
   ·rw [<- AV.ren_one ρ];exact hone _ (List.mem_map.2 ⟨x,hx,rfl⟩)
   ·exact ih j _ (by rw [k8];exact yg e) rfl (jb.1 hl x (List.mem_of_getElem? e))
 | se=>intro a e hl;cases a <;> simp only [AV.ren,reduceCtorEq] at e;exact .se
 | @gr i n v ho hi hv =>
   intro a e hl;cases a <;> simp only [AV.ren,AV.gr.injEq,reduceCtorEq] at e
   rename_i i0 o0
   obtain ⟨rfl,rfl⟩:=e
   simp only [AV.low,decide_eq_true_eq] at hl
   refine .gr ho (R.unlive hi hl) fun t nl els e=>?_
   rw [<- R.b i0 hl];have:=hv _ _ _ (R.m _ _ e);rwa [zF,List.length_map] at this
 | @gp i n e o b q hi hv =>
   intro a e hl;cases a <;> simp only [AV.ren,AV.gp.injEq,reduceCtorEq] at e
   rename_i i0 n0 e0 o0
   obtain ⟨rfl,rfl,rfl,rfl⟩:=e
   simp only [AV.low,decide_eq_true_eq] at hl
   refine .gp (R.unlive hi hl) fun t nl els e=>?_
   rw [<- R.b i0 hl];have:=hv _ _ _ (R.m _ _ e);rwa [zF,List.length_map] at this
 | nilm=>intro a e hl;cases a <;> simp only [AV.ren,reduceCtorEq] at e;exact .nilm
 | @mp i r hi hb =>
   intro a e hl;cases a <;> simp only [AV.ren,AV.mp.injEq,reduceCtorEq] at e
   subst e
   simp only [AV.low,decide_eq_true_eq] at hl
   refine .mp (R.unlive hi hl) fun x e hx=>?_
   rw [<- R.b _ hl];exact hb _ (R.m _ _ e) (by rw [Blk.ren_isMap];exact hx)
 | nilf=>intro a e hl;cases a <;> simp only [AV.ren,reduceCtorEq] at e;exact .nilf
 | @yld i b hi hb =>
   intro a e hl;cases a <;> simp only [AV.ren,AV.yld.injEq,reduceCtorEq] at e
   subst e
   simp only [AV.low,decide_eq_true_eq] at hl
   refine .yld (R.unlive hi hl) fun x e hx=>?_
   rw [<- R.b _ hl];exact hb _ (R.m _ _ e) (by rw [Blk.ren_rec];exact hx)
 | @fn f caps vs us hs hc _ ih =>
   intro a e hl;cases a <;> simp only [AV.ren,AV.fn.injEq,reduceCtorEq] at e
   rename_i f0 cs0
   obtain ⟨rfl,e⟩:=e
   rw [zF] at e;subst e
   exact .fn us (by rw [hs,List.length_map]) (fun j x e=>hc j _ (yg e)) (fun j x e=>ih j _ (yg e) rfl (jf hl e))
 | @bf f caps vs us hs hc _ ih =>
   intro a e hl;cases a <;> simp only [AV.ren,AV.bf.injEq,reduceCtorEq] at e
   rename_i f0 cs0
   obtain ⟨rfl,e⟩:=e
   rw [zF] at e;subst e
   exact .bf us (by rw [hs,List.length_map]) (fun j x e=>hc j _ (yg e)) (fun j x e=>ih j _ (yg e) rfl (jf hl e))
 | @os i m o n b q cap hi hn hc hg hz =>
   intro a e hl;cases a <;> simp only [AV.ren,AV.os.injEq,reduceCtorEq] at e
   rename_i i0 m0 o0 n0
   obtain ⟨rfl,rfl,rfl,rfl⟩:=e
   simp only [AV.low,decide_eq_true_eq] at hl
   refine .os (R.unlive hi hl) hn (fun cs e hne=>?_) (fun t nl els e=>?_) fun ho t nl els e hlen=>?_
   ·rw [<- R.b i0 hl];exact hc _ (R.m _ _ e) hne
   ·rw [<- R.b i0 hl];have:=hg _ _ _ (R.m _ _ e);rwa [zF,List.length_map] at this
   ·rw [<- R.b i0 hl];have:=hz ho _ _ _ (R.m _ _ e);rw [zF,List.length_map] at this;exact this hlen
 | @agg caps vs us hs hone hc _ ih =>
   intro a e hl;cases a <;> simp only [AV.ren,AV.agg.injEq,reduceCtorEq] at e
   rename_i cs0
   rw [zF] at e;subst e
   exact .agg us (by rw [hs,List.length_map]) (fun x hx=>by rw [<- AV.ren_one ρ];exact hone _ (List.mem_map.2 ⟨x,hx,rfl⟩)) (fun j x e=>hc j _ (yg e)) (fun j x e=>ih j _ (yg e) rfl (jf hl e))
 | @tup caps vs us hs hc _ ih =>
   intro a e hl;cases a <;> simp only [AV.ren,AV.tup.injEq,reduceCtorEq] at e
   rename_i cs0
   rw [zF] at e;subst e
   exact .tup us (by rw [hs,List.length_map]) (fun j x e=>hc j _ (yg e)) (fun j x e=>ih j _ (yg e) rfl (jf hl e))
 | @im ks vs r ents clock us h0 h1 h2 h3 h4 _ ih =>
   intro a e hl;cases a <;> simp only [AV.ren,AV.im.injEq,reduceCtorEq] at e
   rename_i ks0 cs0
   obtain ⟨rfl,e⟩:=e
   rw [zF] at e;subst e
   rw [List.length_map] at h1
   exact .im us h0 h1 h2 h3 (fun j q x e1 e2=>h4 j q _ e1 (yg e2)) (fun j x e=>ih j _ (yg e) rfl (jf hl e))
theorem Ren.cells (R : Ren ρ β1 H1 β H) {cs : List AV} {c : Array Value} (k : zP P h β1 H1 cs c) : zP P h β H (cs.map (AV.ren ρ)) c:=by
 obtain ⟨us,a,b⟩:=k
 refine ⟨us,fun j x e=>?_,fun j x e=>?_⟩ <;> (rw [List.getElem?_map] at e;cases hq : cs[j]? with | none=>simp [hq] at e | some y=>?_)
 ·exact a j y hq
 ·simp only [hq,Option.map_some,Option.some.injEq] at e;subst e;exact R.rep (b j y hq)
theorem Ren.uncells (R : Ren ρ β1 H1 β H) {cs : List AV} {c : Array Value} (hl : lowL H1.length cs = true) (k : zP P h β H (cs.map (AV.ren ρ)) c) : zP P h β1 H1 cs c:=by
 obtain ⟨us,a,b⟩:=k
 exact ⟨us,fun j x e=>a j _ (yg e),fun j x e=>R.unrep (b j _ (yg e)) rfl (jf hl e)⟩
theorem Ren.blk (R : Ren ρ β1 H1 β H) {heap : Array Obj} {i : Nat} (hi : i < H1.length) {x : Blk} (k : jN P h β1 H1 heap i x) : jN P h β H heap (ρ i) (x.ren ρ):=by
 have hb:=R.b i hi
 cases x with
 | dead=>trivial
 | free=>trivial
 | cells cs =>
   obtain ⟨b,c,t,h1,h2,h3,h4,h5⟩:=k
   rw [Blk.ren,zF]
   refine ⟨b,c,t,hb.trans h1,h2,by rw [h3,List.length_map],fun x hx=>?_,R.cells h5⟩
   obtain ⟨y,hy,rfl⟩:=List.mem_map.1 hx;rw [AV.ren_one];exact h4 y hy
 | grow t nl els =>
   rw [Blk.ren,zF]
   rcases k with ⟨h1,h2,h3⟩ | ⟨h1,h2,a,h3⟩ | ⟨h1,b,cap,c,h2,h3,h4,h5,h6,h7,h8,h9,h10,h11⟩
   ·exact .inl ⟨h1,by rw [h2];rfl,hb.trans h3⟩
   ·exact .inr (.inl ⟨h1,by rw [h2];rfl,a,hb.trans h3⟩)
   ·refine .inr (.inr ⟨h1,b,cap,c,by rw [hb,h2,List.length_map],h3,h4,by rw [List.length_map];exact h5,h6,h7,h8,fun e he=>?_,fun x hx=>?_,by rw [k8];exact R.cells h11⟩)
    ·obtain ⟨y,hy,rfl⟩:=List.mem_map.1 he;rw [AV.ren_cells,List.length_map];exact h9 y hy
    ·rw [k8] at hx;obtain ⟨y,hy,rfl⟩:=List.mem_map.1 hx;rw [AV.ren_one];exact h10 y hy
 | map es =>
   obtain ⟨r,ents,clock,h1,h2,h3,h4,us,h5⟩:=k
   refine ⟨r,ents,clock,hb.trans h1,h2,?_,by rw [h4,List.length_map],us,fun j q x e=>?_⟩
   ·rw [List.map_map];exact h3
   ·rw [List.getElem?_map] at e
    cases hq : es[j]? with
    | none=>simp [hq] at e
    | some y =>
      obtain ⟨a,b⟩:=y
      simp only [hq,Option.map_some,Option.some.injEq,Prod.mk.injEq] at e
      obtain ⟨rfl,rfl⟩:=e
      obtain ⟨h6,h7⟩:=h5 j _ _ hq
      exact ⟨R.rep h6,h7⟩
 | pm es =>
   obtain ⟨r,ents,clock,h1,h2,h3,h4,us,h5⟩:=k
   refine ⟨r,ents,clock,hb.trans h1,h2,?_,by rw [h4,List.length_map],us,fun j q x e=>?_⟩
   ·rw [List.map_map];exact h3
   ·rw [List.getElem?_map] at e
    cases hq : es[j]? with
    | none=>simp [hq] at e
    | some y =>
      obtain ⟨a,b⟩:=y
      simp only [hq,Option.map_some,Option.some.injEq,Prod.mk.injEq] at e
      obtain ⟨rfl,rfl⟩:=e
      obtain ⟨h6,h7⟩:=h5 j _ _ hq
      exact ⟨R.rep h6,h7⟩
 | raw o=>obtain ⟨b,h1,h2⟩:=k;exact ⟨b,hb.trans h1,h2⟩
 | lp st pend f tm ps x y n =>
   obtain ⟨b,dfr,tmps,h1,h2,h3,h4⟩:=k
   refine ⟨b,dfr,tmps,hb.trans h1,h2,h3,fun t r e=>?_⟩
   obtain ⟨⟨t',r'⟩,hm,he⟩:=List.mem_map.1 e
   simp only [Prod.mk.injEq] at he;obtain ⟨rfl,rfl⟩:=he
   obtain ⟨v,h5,h6⟩:=h4 _ _ hm
   exact ⟨v,h5,R.rep h6⟩
theorem Ren.unblk (R : Ren ρ β1 H1 β H) {heap : Array Obj} {i : Nat} (hi : i < H1.length) {x : Blk} (hl : x.low H1.length = true) (k : jN P h β H heap (ρ i) (x.ren ρ)) : jN P h β1 H1 heap i x:=by
 have hb:=R.b i hi
 cases x with
 | dead=>trivial
 | free=>trivial
 | cells cs =>
   rw [Blk.ren,zF] at k
   obtain ⟨b,c,t,h1,h2,h3,h4,h5⟩:=k
   exact ⟨b,c,t,hb.symm.trans h1,h2,by rw [h3,List.length_map],fun x hx=>by rw [<- AV.ren_one ρ];exact h4 _ (List.mem_map.2 ⟨x,hx,rfl⟩),R.uncells hl h5⟩
 | grow t nl els =>
   rw [Blk.ren,zF] at k
   rcases k with ⟨h1,h2,h3⟩ | ⟨h1,h2,a,h3⟩ | ⟨h1,b,cap,c,h2,h3,h4,h5,h6,h7,h8,h9,h10,h11⟩
   ·exact .inl ⟨h1,List.map_eq_nil_iff.1 h2,hb.symm.trans h3⟩
   ·exact .inr (.inl ⟨h1,List.map_eq_nil_iff.1 h2,a,hb.symm.trans h3⟩)
   ·rw [List.length_map] at h2 h5
    rw [k8] at h10 h11
    refine .inr (.inr ⟨h1,b,cap,c,hb.symm.trans h2,h3,h4,h5,h6,h7,h8,fun e he=>?_,fun x hx=>?_,R.uncells ?_ h11⟩)
    ·have:=h9 _ (List.mem_map.2 ⟨e,he,rfl⟩);rwa [AV.ren_cells,List.length_map] at this
    ·rw [<- AV.ren_one ρ];exact h10 _ (List.mem_map.2 ⟨x,hx,rfl⟩)
    ·exact zt.2 (jb.1 hl)
 | map es =>
   obtain ⟨r,ents,clock,h1,h2,h3,h4,us,h5⟩:=k
   refine ⟨r,ents,clock,hb.symm.trans h1,h2,?_,by rw [h4,List.length_map],us,fun j q x e=>?_⟩
   ·rw [List.map_map] at h3;exact h3
   ·obtain ⟨h6,h7⟩:=h5 j q (x.ren ρ) (by rw [List.getElem?_map,e];rfl)
    refine ⟨R.unrep h6 rfl ?_,h7⟩
    exact zt.1 hl x (List.mem_map.2 ⟨(q,x),List.mem_of_getElem? e,rfl⟩)
 | pm es =>
   obtain ⟨r,ents,clock,h1,h2,h3,h4,us,h5⟩:=k
   refine ⟨r,ents,clock,hb.symm.trans h1,h2,?_,by rw [h4,List.length_map],us,fun j q x e=>?_⟩
   ·rw [List.map_map] at h3;exact h3
   ·obtain ⟨h6,h7⟩:=h5 j q (x.ren ρ) (by rw [List.getElem?_map,e];rfl)
    refine ⟨R.unrep h6 rfl ?_,h7⟩
    exact zt.1 hl x (List.mem_map.2 ⟨(q,x),List.mem_of_getElem? e,rfl⟩)
 | raw o=>obtain ⟨b,h1,h2⟩:=k;exact ⟨b,hb.symm.trans h1,h2⟩
 | lp st pend f tm ps x y n =>
   obtain ⟨b,dfr,tmps,h1,h2,h3,h4⟩:=k
   refine ⟨b,dfr,tmps,hb.symm.trans h1,h2,h3,fun t r e=>?_⟩
   obtain ⟨v,h5,h6⟩:=h4 t (r.ren ρ) (List.mem_map.2 ⟨(t,r),e,rfl⟩)
   exact ⟨v,h5,R.unrep h6 rfl (zt.1 hl r (List.mem_map.2 ⟨(t,r),e,rfl⟩))⟩
theorem Ren.blkOf (R : Ren ρ β1 H1 β H) {i : Nat} (hi : i < H1.length) : GA.blkOf β H (ρ i) = GA.blkOf β1 H1 i:=by
 have h1:=R.m i _ (List.getElem?_eq_getElem hi)
 unfold GA.blkOf
 rw [h1,List.getElem?_eq_getElem hi,R.b i hi]
 generalize H1[i] = x
 cases x <;> rfl
theorem Ren.to {x x' : Blk} {β' β1' : Nat -> Value} {i : Nat} (h1 : β (ρ i) = β1 i) (h2 : β' (ρ i) = β1' i) (k : x.to β1 β1' i x') : (x.ren ρ).to β β' (ρ i) (x'.ren ρ):=by
 cases x with
 | dead=>simp only [Blk.to] at k;subst k;rfl
 | free=>trivial
 | cells cs =>
   rcases k with rfl | ⟨cs',rfl,hb⟩
   ·exact .inl rfl
   ·exact .inr ⟨_,rfl,by rw [h1,h2];exact hb⟩
 | grow t nl els =>
   rcases k with rfl | ⟨nl',els',rfl,hl,hb⟩
   ·exact .inl rfl
   ·exact .inr ⟨_,_,rfl,by simp only [zF,List.length_map];exact hl,fun e=>by rw [h1,h2];simp only [zF,List.length_map] at e;exact hb e⟩
 | map es =>
   rcases k with rfl | ⟨cs',rfl,hb⟩
   ·exact .inl rfl
   ·exact .inr ⟨_,rfl,by rw [h1,h2];exact hb⟩
 | pm es =>
   rcases k with rfl | ⟨cs',rfl,hb⟩
   ·exact .inl rfl
   ·exact .inr ⟨_,rfl,by rw [h1,h2];exact hb⟩
 | raw o =>
   rcases k with rfl | ⟨cs',rfl,hb⟩
   ·exact .inl rfl
   ·exact .inr ⟨_,rfl,by rw [h1,h2];exact hb⟩
 | lp st pend f tm ps x y n =>
   rcases k with rfl | ⟨st',pend',rfl,hb⟩
   ·exact .inl rfl
   ·exact .inr ⟨_,_,rfl,by rw [h1,h2];exact hb⟩
theorem Ren.sr (R : Ren ρ β1 H1 β H) (s : SR P E h β H w) (inj : ∀ i j,i < H1.length -> j < H1.length -> ρ i = ρ j -> i = j) (lo : ∀ x ∈ H1,x.low H1.length = true) : SR P E h β1 H1 w:=by
 have hlt : ∀ {i x},GA.blkOf β1 H1 i = some x -> i < H1.length:=fun e=>(yr e).1
 refine ⟨s.env,s.imm,fun i x e=>?_,fun i j x e1 e2=>?_,fun i x e=>?_,s.frm,fun i x e=>?_⟩
 ·have hi:=(List.getElem?_eq_some_iff.1 e).1
  exact R.unblk hi (lo x (List.mem_of_getElem? e)) (s.blk _ _ (R.m i x e))
 ·exact inj i j (hlt e1) (hlt e2) (s.own _ _ x (by rw [R.blkOf (hlt e1)];exact e1) (by rw [R.blkOf (hlt e2)];exact e2))
 ·exact s.fresh (ρ i) x (by rw [R.blkOf (hlt e)];exact e)
 ·exact s.fro (ρ i) x (by rw [R.blkOf (hlt e)];exact e)
noncomputable def othE (E : Env) (β : Nat -> Value) (H : List Blk) (w : World) (im : Nat -> Prop) : Env:=by
 classical exact ⟨E.b,fun b=>if ∃ j,¬ im j /\ GA.blkOf β H j = some b then w.heap[b]? else E.fr b,E.en⟩
theorem q9 {im : Nat -> Prop} {b j : Nat} (hj : ¬ im j) (hb : GA.blkOf β H j = some b) : (othE E β H w im).fr b = w.heap[b]?:=by
 simp only [othE];rw [if_pos ⟨j,hj,hb⟩]
theorem gN {im : Nat -> Prop} {b : Nat} (hn : ∀ j,¬ im j -> GA.blkOf β H j ≠ some b) : (othE E β H w im).fr b = E.fr b:=by
 simp only [othE];rw [if_neg (fun ⟨j,h1,h2⟩=>hn j h1 h2)]
theorem Ren.srE (R : Ren ρ β1 H1 β H) (s : SR P E h β H w) (inj : ∀ i j,i < H1.length -> j < H1.length -> ρ i = ρ j -> i = j) (lo : ∀ x ∈ H1,x.low H1.length = true) :
  SR P (othE E β H w fun j=>∃ i,i < H1.length /\ ρ i = j) h β1 H1 w:=by
 have s1:=R.sr s inj lo
 refine ⟨s1.env,s1.imm,s1.blk,s1.own,s1.fresh,fun b o e=>?_,fun i x e=>?_⟩
 ·by_cases hh : ∃ j,¬ (∃ i,i < H1.length /\ ρ i = j) /\ GA.blkOf β H j = some b
  ·obtain ⟨j,h1,h2⟩:=hh
   rw [q9 h1 h2] at e
   exact ⟨e,s.fresh _ _ h2⟩
  ·rw [gN (fun j h1 h2=>hh ⟨j,h1,h2⟩)] at e;exact s.frm b o e
 ·have hi:=(yr e).1
  have hb:=R.blkOf hi
  rw [gN]
  ·exact s.fro (ρ i) x (by rw [hb];exact e)
  ·intro j h1 h2
   exact h1 ⟨i,hi,s.own _ _ x (by rw [hb];exact e) h2⟩
theorem yo.frame {f : FuncId} {rs1 : List AV} {k1 k : AV -> List Blk -> Prop} (x : yo P f rs1 H1 k1)
  (inj : ∀ i j,i < H1.length -> j < H1.length -> ρ i = ρ j -> i = j) (hm : ∀ (i : Nat) x1,H1[i]? = some x1 -> H[ρ i]? = some (x1.ren ρ))
  (lo : ∀ x ∈ H1,x.low H1.length = true) (lor : lowL H1.length rs1 = true)
  (hk : ∀ r1 H1',k1 r1 H1' -> H1'.length = H1.length /\ ∃ H',H'.length = H.length /\ (∀ (i : Nat) x1,H1'[i]? = some x1 -> H'[ρ i]? = some (x1.ren ρ)) /\ (∀ j,(∀ i,i < H1.length -> ρ i ≠ j) -> H'[j]? = H[j]?) /\ k (r1.ren ρ) H') :
  yo P f (rs1.map (AV.ren ρ)) H k:=by
 refine ⟨x.1,fun E h β w vs s hr=>?_⟩
 have R : Ren ρ (fun i=>β (ρ i)) H1 β H:=⟨hm,fun _ _=>rfl⟩
 have s1:=R.srE s inj lo
 have hr1 : RepL P h (fun i=>β (ρ i)) H1 rs1 vs:=⟨by rw [hr.1,List.length_map],fun j r e=>by
  obtain ⟨v,h1,h2⟩:=hr.2 j _ (yg e)
  exact ⟨v,h1,R.unrep h2 rfl (jf lor e)⟩⟩
 refine (x.2 _ h _ w vs s1 hr1).mono ?_
 rintro e w' ⟨r1,H1',h',β1',v,rfl,q,X,s',hv⟩
 obtain ⟨hlen,H',hlen',hm',ho,hk'⟩:=hk r1 H1' q
 classical
 let β' : Nat -> Value:=fun j=>if hj : ∃ i,i < H1.length /\ ρ i = j then β1' (Classical.choose hj) else β j
 have hβ1 : ∀ i,i < H1.length -> β' (ρ i) = β1' i:=by
  intro i hi
  have hj : ∃ i',i' < H1.length /\ ρ i' = ρ i:=⟨i,hi,rfl⟩
  simp only [β',dif_pos hj]
  rw [inj _ _ (Classical.choose_spec hj).1 hi (Classical.choose_spec hj).2]
 have hβ2 : ∀ j,(∀ i,i < H1.length -> ρ i ≠ j) -> β' j = β j:=by
  intro j hj
  have hn : ¬ ∃ i,i < H1.length /\ ρ i = j:=fun ⟨i,h1,h2⟩=>hj i h1 h2
  simp only [β',dif_neg hn]
 have R' : Ren ρ β1' H1' β' H':=⟨hm',fun i hi=>hβ1 i (by omega)⟩
 have im : ∀ j,(∃ i,i < H1.length /\ ρ i = j) \/ ∀ i,i < H1.length -> ρ i ≠ j:=by
  intro j
  by_cases hj : ∃ i,i < H1.length /\ ρ i = j
  ·exact .inl hj
  ·exact .inr fun i hi e=>hj ⟨i,hi,e⟩
 have X' : Ext h β H h' β' H':=by
  refine ⟨X.imm,by omega,fun j y y' e e'=>?_⟩
  rcases im j with ⟨i,hi,rfl⟩ | hj
  ·have h1 : H1[i]? = some H1[i]:=List.getElem?_eq_getElem hi
   have h2 : H1'[i]? = some (H1'[i]'(by omega)):=List.getElem?_eq_getElem (by omega)
   rw [hm i _ h1] at e;cases e
   rw [hm' i _ h2] at e';cases e'
   exact Ren.to (β1:=fun i=>β (ρ i)) rfl (hβ1 i hi) (X.to i _ _ h1 h2)
  ·rw [ho j hj,e] at e';cases e'
   have:=Blk.to_refl β j y
   cases y with
   | dead=>rfl
   | free=>trivial
   | cells cs=>exact .inr ⟨_,rfl,hβ2 j hj⟩
   | grow t nl els=>exact .inr ⟨_,_,rfl,Nat.le_refl _,fun _=>hβ2 j hj⟩
   | map es=>exact .inr ⟨_,rfl,hβ2 j hj⟩
   | pm es=>exact .inr ⟨_,rfl,hβ2 j hj⟩
   | raw o=>exact .inr ⟨_,rfl,hβ2 j hj⟩
   | lp st pend f tm ps x y n=>exact .inr ⟨_,_,rfl,hβ2 j hj⟩
 have hb1 : ∀ i,i < H1.length -> GA.blkOf β' H' (ρ i) = GA.blkOf β1' H1' i:=fun i hi=>R'.blkOf (by omega)
 have hb2 : ∀ j,(∀ i,i < H1.length -> ρ i ≠ j) -> GA.blkOf β' H' j = GA.blkOf β H j:=fun j hj=>yK (hβ2 j hj) (ho j hj)
 have hsome : ∀ j b,GA.blkOf β H j = some b -> ∃ o,w.heap[b]? = some o:=fun j b e=>⟨_,Array.getElem?_eq_getElem (s.lt e)⟩
 have hfr : ∀ j b o,(∀ i,i < H1.length -> ρ i ≠ j) -> GA.blkOf β H j = some b -> w.heap[b]? = some o -> w'.heap[b]? = some o /\ h' b = none:=by
  intro j b o hj e eo
  refine s'.frm b o ?_
  rw [q9 (j:=j) (fun ⟨i,h1,h2⟩=>hj i h1 h2) e];exact eo
 have hE : ∀ b o,E.fr b = some o -> (othE E β H w fun j=>∃ i,i < H1.length /\ ρ i = j).fr b = some o:=by
  intro b o e
  rw [gN]
  ·exact e
  ·intro j _ h2;rw [s.fro j b h2] at e;cases e
 refine ⟨r1.ren ρ,H',h',β',v,rfl,hk',X',?_,R'.rep hv⟩
 refine ⟨s'.env,s'.imm,fun j y e=>?_,fun i j b e1 e2=>?_,fun j b e=>?_,fun b o e=>s'.frm b o (hE b o e),fun j b e=>?_⟩
 ·rcases im j with ⟨i,hi,rfl⟩ | hj
  ·have h2 : H1'[i]? = some (H1'[i]'(by omega)):=List.getElem?_eq_getElem (by omega)
   rw [hm' i _ h2] at e;cases e
   exact R'.blk (by omega) (s'.blk i _ h2)
  ·rw [ho j hj] at e
   refine (s.blk j y e).keep X' (hβ2 j hj) fun hd hd' b hb=>?_
   have hbo : GA.blkOf β H j = some b:=by unfold GA.blkOf;rw [e];cases y <;> first|exact absurd rfl hd|exact absurd rfl hd'|exact hb
   obtain ⟨o,ho'⟩:=hsome j b hbo
   rw [ho',(hfr j b o hj hbo ho').1]
 ·rcases im i with ⟨i0,hi,rfl⟩ | hi <;> rcases im j with ⟨j0,hj,rfl⟩ | hj
  ·rw [hb1 i0 hi] at e1;rw [hb1 j0 hj] at e2
   rw [s'.own _ _ b e1 e2]
  ·rw [hb1 i0 hi] at e1;rw [hb2 j hj] at e2
   obtain ⟨o,ho'⟩:=hsome j b e2
   have h3:=s'.fro _ _ e1
   rw [q9 (j:=j) (fun ⟨i,h1,h2⟩=>hj i h1 h2) e2,ho'] at h3;cases h3
  ·rw [hb2 i hi] at e1;rw [hb1 j0 hj] at e2
   obtain ⟨o,ho'⟩:=hsome i b e1
   have h3:=s'.fro _ _ e2
   rw [q9 (j:=i) (fun ⟨i',h1,h2⟩=>hi i' h1 h2) e1,ho'] at h3;cases h3
  ·rw [hb2 i hi] at e1;rw [hb2 j hj] at e2
   exact s.own _ _ b e1 e2
 ·rcases im j with ⟨i,hi,rfl⟩ | hj
  ·rw [hb1 i hi] at e;exact s'.fresh _ _ e
  ·rw [hb2 j hj] at e
   obtain ⟨o,ho'⟩:=hsome j b e
   exact (hfr j b o hj e ho').2
 ·rcases im j with ⟨i,hi,rfl⟩ | hj
  ·rw [hb1 i hi] at e
   have h3:=s'.fro _ _ e
   cases hx : E.fr b with
   | none=>rfl
   | some o=>rw [hE b o hx] at h3;cases h3
  ·rw [hb2 j hj] at e;exact s.fro _ _ e
end
end GA
end
section
namespace GA
open Go Go.RowKit
section
variable {P : Program} {T : Tab} {N : Nat} {ρ : Option Nat} {own : List Nat} {D : List Nat} {σ : St} {H : List Blk} {Q : Post} {E : Env} {h : Nat -> Option Obj} {β : Nat -> Value} {w : World}
structure RenS (f : Nat -> Nat) (base : Nat) (H1 : List Blk) (σ1 : St) (H : List Blk) (σ : St) : Prop where
 inj : ∀ i j,i < H1.length -> j < H1.length -> f i = f j -> i = j
 fix : ∀ i,i < base -> f i = i
 len : base <= H1.length
 hm : ∀ (i : Nat) x1,H1[i]? = some x1 -> H[f i]? = some (x1.ren f)
 lowb : ∀ (i : Nat) x1,i < base -> H1[i]? = some x1 -> x1.ren f = x1
 low : ∀ x ∈ H1,x.low H1.length = true
 st : ∀ t r,σ1 t = some r -> σ t = some (r.ren f) /\ r.low H1.length = true
theorem AWp.loopR {c : Code} {G : Type} (st : G -> St) (hp : G -> List Blk) (μ : G -> Nat) (g0 : G) (hσ : ∀ t r,st g0 t = some r -> σ t = some r) (hH : hp g0 = H) (hD : D = [])
  (round : ∀ g,AWp P N ρ c (yW (fun D' σ' H'=>D' = D /\ ∃ g' f,μ g' < μ g /\ RenS f H.length (hp g') (st g') H' σ') Q) D (st g) (hp g)) : AWp P N ρ (.loop c) Q D σ H:=by
 intro E h β a w s
 subst hH;subst hD
 let I : G -> Act -> World -> Prop:=fun g a w=>∃ h' β',Ext h β (hp g0) h' β' (hp g) /\ yS P E N h' β' [] (st g) (hp g) a w
 have least : ∀ a w,(∃ g,I g a w) -> ∃ n,(∃ g,I g a w /\ μ g = n) /\ ∀ m,m < n -> ¬ ∃ g,I g a w /\ μ g = m:=
  fun a w ⟨g,hg⟩=>kq ⟨μ g,g,hg,rfl⟩
 classical
 let M : Act -> World -> Nat:=fun a w=>if e : ∃ g,I g a w then Classical.choose (least a w e) else 0
 have hM : ∀ a w (e : ∃ g,I g a w),(∃ g,I g a w /\ μ g = M a w) /\ ∀ g,I g a w -> M a w <= μ g:=by
  intro a w e
  have hc:=Classical.choose_spec (least a w e)
  have hm : M a w = Classical.choose (least a w e):=by simp only [M,dif_pos e]
  rw [hm]
  refine ⟨hc.1,fun g hg=>?_⟩
  rcases Nat.lt_or_ge (μ g) (Classical.choose (least a w e)) with hlt | hge
  ·exact absurd ⟨g,hg,rfl⟩ (hc.2 _ hlt)
  ·exact hge
 refine wpIn_loop (fun a w=>∃ g,I g a w) M ⟨g0,h,β,Ext.refl _ _ _,s.sr,fun t r e=>s.fits t r (hσ t r e),s.size,s.df⟩ ?_
 intro a' w' hI
 obtain ⟨⟨g,hg,hmu⟩,_⟩:=hM a' w' hI
 obtain ⟨h',β',X,s'⟩:=hg
 refine wpIn_mono (round g E h' β' a' w' s') ?_
 rintro e a'' w'' ⟨D'',σ'',H'',h'',β'',q,X',s''⟩
 cases e with
 | normal =>
   obtain ⟨rfl,g',f,hlt,r⟩:=q
   have R : Ren f (fun i=>β'' (f i)) (hp g') β'' H'':=⟨r.hm,fun _ _=>rfl⟩
   have hI' : I g' a'' w'':=by
    refine ⟨h'',fun i=>β'' (f i),⟨(X.trans X').imm,r.len,fun i x x' e e'=>?_⟩,R.sr s''.sr r.inj r.low,fun t r0 e=>?_,s''.size,s''.df.any⟩
    ·have hi:=(List.getElem?_eq_some_iff.1 e).1
     have h1:=r.hm i x' e'
     rw [r.fix i hi,r.lowb i x' hi e'] at h1
     have h2:=(X.trans X').to i x x' e h1
     cases x with
     | dead=>exact h2
     | free=>trivial
     | _=>simpa only [Blk.to,r.fix i hi] using h2
    ·obtain ⟨h1,h2⟩:=r.st t r0 e
     obtain ⟨v,h3,h4⟩:=s''.fits t _ h1
     exact ⟨v,h3,R.unrep h4 rfl h2⟩
   refine ⟨⟨g',hI'⟩,?_⟩
   have:=(hM a'' w'' ⟨g',hI'⟩).2 g' hI'
   omega
 | _=>exact ⟨D'',σ'',H'',h'',β'',q,X.trans X',s''⟩
def rnF (l : List Nat) (i : Nat) : Nat:=match lget l i with | some j=>j | none=>i
def XBlkR (f : Nat -> Nat) (base : Nat) (x : Blk) (o : Option Blk) : Prop:=(o = some x /\ x.low base = true) \/ o = some (x.ren f)
def XValR (f : Nat -> Nat) (base : Nat) (x : AV) (o : Option AV) : Prop:=(o = some x /\ x.low base = true) \/ o = some (x.ren f)
def zci (f : Nat -> Nat) (base : Nat) (H : List Blk) : Nat -> List Blk -> Prop
 | _,[]=>True
 | i,x :: l=>XBlkR f base x (lget H (f i)) /\ zci f base H (i + 1) l
def SubR (f : Nat -> Nat) (base : Nat) (n : Nat) (σ : St) : List (Nat × AV) -> Prop
 | []=>True
 | (t,r) :: l=>(XValR f base r (σ t) /\ r.low n = true) /\ SubR f base n σ l
structure qj {G : Type} (I : G -> Prop) (L : G -> List (Nat × AV)) (hp : G -> List Blk) (μ : G -> Nat) (base : Nat) (g : G) (D' : List Nat) (σ' : St) (H' : List Blk) : Prop where
 d : D' = []
 o : ∃ g' l,I g' /\ μ g' < μ g /\ (l.length = (hp g').length /\ l.Nodup /\ (∀ i,i < base -> lget l i = some i) /\ base <= l.length) /\ (∀ x ∈ hp g',x.low (hp g').length = true) /\ (∀ (i : Nat) x,i < base -> lget (hp g') i = some x -> x.low base = true) /\
  zci (rnF l) base H' 0 (hp g') /\ SubR (rnF l) base (hp g').length σ' (L g')
theorem za6 {f : Nat -> Nat} {n : Nat} {α : Type} (h : ∀ i,i < n -> f i = i) {es : List (α × AV)} (hl : lowL n (es.map (·.2)) = true) : (es.map fun p=>(p.1,p.2.ren f)) = es:=by
 have : ∀ p ∈ es,(fun p : α × AV=>(p.1,p.2.ren f)) p = id p:=fun p hp=>by
  have:=zt.1 hl p.2 (List.mem_map.2 ⟨p,hp,rfl⟩)
  simp only [id,AV.ren_low h this]
 rw [List.map_congr_left this,List.map_id]
theorem Blk.ren_low {f : Nat -> Nat} {n : Nat} (h : ∀ i,i < n -> f i = i) {x : Blk} (hl : x.low n = true) : x.ren f = x:=by
 cases x with
 | cells cs=>simp only [Blk.ren];rw [zaD h hl]
 | grow t nl els=>simp only [Blk.ren];rw [zaD h hl]
 | map es=>simp only [Blk.ren];rw [za6 h hl]
 | pm es=>simp only [Blk.ren];rw [za6 h hl]
 | lp st pend f tm ps x y n=>simp only [Blk.ren];rw [za6 h hl]
 | _=>rfl
theorem zci.get {f : Nat -> Nat} {base : Nat} {H : List Blk} : ∀ {l : List Blk} {i : Nat},zci f base H i l -> ∀ (j : Nat) x,l[j]? = some x -> XBlkR f base x (lget H (f (i + j)))
 | [],_,_,j,x,e=>by simp at e
 | y :: l,i,h,0,x,e=>by simp at e;subst e;exact h.1
 | y :: l,i,h,j + 1,x,e=>by
   have:=zci.get h.2 j x (by simpa using e)
   rwa [Nat.add_right_comm] at this
theorem SubR.get {f : Nat -> Nat} {base n : Nat} {σ : St} : ∀ {l : List (Nat × AV)},SubR f base n σ l -> ∀ t r,stX l t = some r -> XValR f base r (σ t) /\ r.low n = true
 | [],_,t,r,e=>by cases e
 | (u,x) :: l,h,t,r,e=>by
   simp only [stX,yZ,upd] at e
   split at e
   ·rename_i hh;cases e;subst hh;exact h.1
   ·exact SubR.get h.2 t r e
theorem Walk.loopR {c : Code} {G : Type} (ok : zA P T) (own : List Nat) (I : G -> Prop) (L : G -> List (Nat × AV)) (hp : G -> List Blk) (μ : G -> Nat) (g0 : G) (base : Nat) (h0 : I g0) (hH : hp g0 = H) (hb : base = H.length) (hs : SubX (L g0) σ)
  (round : ∀ g,I g -> XRun P T N ρ own c (yW (qj I L hp μ base g) Q) [] (stX (L g)) (hp g)) : Walk P N ρ (.loop c) Q [] σ H:=by
 constructor
 refine AWp.loopR (G:={g : G // I g}) (fun g=>stX (L g.1)) (fun g=>hp g.1) (fun g=>μ g.1) ⟨g0,h0⟩ (yN hs) hH rfl fun g=>?_
 refine (XRun.sound ok (round g.1 g.2)).mono fun e D' σ' H' q=>?_
 cases e with
 | normal =>
   obtain ⟨h1,g',l,h2,h3,⟨h4,h5,h6,h6'⟩,h7,h8,h9,h10⟩:=q
   have hfix : ∀ i,i < base -> rnF l i = i:=fun i hi=>by unfold rnF;rw [h6 i hi]
   refine ⟨h1,⟨g',h2⟩,rnF l,h3,⟨fun i j hi hj e=>?_,by rw [<- hb];exact hfix,by rw [<- hb,<- h4];exact h6',fun i x e=>?_,fun i x hi e=>?_,h7,fun t r e=>?_⟩⟩
   ·dsimp only at hi hj
    unfold rnF at e
    rw [zr,zr,List.getElem?_eq_getElem (by omega),List.getElem?_eq_getElem (by omega)] at e
    exact (List.getElem_inj h5).1 e
   ·have:=h9.get i x e
    rw [Nat.zero_add,zr] at this
    rcases this with ⟨e1,e2⟩ | e1
    ·rw [e1,Blk.ren_low hfix e2]
    ·exact e1
   ·rw [<- hb] at hi
    exact Blk.ren_low hfix (h8 i x hi (by rw [zr];exact e))
   ·obtain ⟨e0,e3⟩:=h10.get t r e
    refine ⟨?_,e3⟩
    rcases e0 with ⟨e1,e2⟩ | e1
    ·rw [e1,AV.ren_low hfix e2]
    ·exact e1
 | _=>exact q
theorem qj.go {G : Type} {I : G -> Prop} {L : G -> List (Nat × AV)} {hp : G -> List Blk} {μ : G -> Nat} {base : Nat} {g : G} (g' : G) (l : List Nat) (h1 : I g') (h2 : μ g' < μ g) (h3 : l.length = (hp g').length /\ l.Nodup /\ (∀ i,i < base -> lget l i = some i) /\ base <= l.length)
  (h4 : ∀ x ∈ hp g',x.low (hp g').length = true) (h5 : ∀ (i : Nat) x,i < base -> lget (hp g') i = some x -> x.low base = true) (h6 : zci (rnF l) base H 0 (hp g')) (h7 : SubR (rnF l) base (hp g').length σ (L g')) : qj I L hp μ base g [] σ H:=
 ⟨rfl,g',l,h1,h2,h3,h4,h5,h6,h7⟩
theorem opLoad_ex {t : TypeId} {p : AV} {k : AV -> Prop} (x : y0 P t H p k) : ∃ r,k r /\ ∀ k' : AV -> Prop,k' r -> y0 P t H p k':=by
 unfold y0 at x
 obtain ⟨ti,h1,x⟩:=zd x
 obtain ⟨cs,h2,x⟩:=zd x
 split at x
 ·rename_i e
  exact ⟨_,x.2,fun k' hk=>by unfold y0;rw [h1,zo,h2,zo,if_pos e];exact ⟨x.1,hk⟩⟩
 ·rename_i e
  obtain ⟨c,h3,x⟩:=zd x
  exact ⟨c,x,fun k' hk=>by unfold y0;rw [h1,zo,h2,zo,if_neg e,h3,zo];exact hk⟩
theorem zda : ∀ {l : List ResultVar} {k : List AV -> Prop},resA P σ H l k -> ∃ rs,k rs /\ ∀ k' : List AV -> Prop,k' rs -> resA P σ H l k'
 | [],k,x=>⟨[],x,fun _ h=>h⟩
 | .tmp t :: l,k,x=>by
   obtain ⟨r,h1,x⟩:=zd x
   obtain ⟨rs,h2,h3⟩:=zda x
   exact ⟨r :: rs,h2,fun k' h=>by simp only [resA];rw [h1,zo];exact h3 (fun rs=>k' (r :: rs)) h⟩
 | .cell a t :: l,k,x=>by
   obtain ⟨p,h1,x⟩:=zd x
   obtain ⟨r,x,h4⟩:=opLoad_ex x
   obtain ⟨rs,h2,h3⟩:=zda x
   exact ⟨r :: rs,h2,fun k' h=>by simp only [resA];rw [h1,zo];exact h4 _ (h3 (fun rs=>k' (r :: rs)) h)⟩
structure XCut (n : Nat) (D : List Nat) (H : List Blk) (r : AV) (k : AV -> List Blk -> Prop) : Prop where
 o : ∃ H1 l,H = H1 ++ l /\ H1.length = n /\ (∀ x ∈ H1,x.low n = true) /\ D.Nodup /\ (∀ i ∈ D,n <= i /\ H[i]? = some (.raw (.deferred (some [])))) /\ r.low n = true /\ k r H1
def XFk (T : Tab) (res : List ResultVar) (n : Nat) (k : AV -> List Blk -> Prop) : Post:=fun e D σ H =>
 match e with
 | .normal | .ret=>xRes T σ H res fun rs=>XCut n D H (pack rs) k
 | _=>False
theorem yo.bodyK {f : FuncId} {fn : Func} {c : Code} {rs : List AV} {res : List ResultVar} {k : AV -> List Blk -> Prop} (ok : zA P T) (own : List Nat) (hf : P.funcs[f]? = some fn) (hb : fn.body = some c) (hn : (fn.name == "runtime.NumGoroutine") = false)
  (hN : fn.ntmps = N) (hr : fn.results = res.toArray) (hl : rs.length <= N) (x : XRun P T N none own c (XFk T res H.length k) [] (argX rs) H) : yo P f rs H k:=by
 subst hN
 refine yo.of_body hf hb hn hl ?_
 rw [hr,<- zcU]
 refine (XRun.sound ok x).mono fun e D σ H' q=>?_
 have go : xRes T σ H' res (fun rs=>XCut H.length D H' (pack rs) k) -> ∃ H1 l,H' = H1 ++ l /\ H.length <= H1.length /\ (∀ x ∈ H1,x ∈ H \/ x.low H1.length = true) /\ D.Nodup /\
  (∀ i ∈ D,H1.length <= i /\ H'[i]? = some (.raw (.deferred (some [])))) /\ resA P σ H' res fun rs=>(pack rs).low H1.length = true /\ k (pack rs) H1:=by
  intro x
  obtain ⟨rs,⟨H1,l,h1,h2,h3,h4,h5,h6,h7⟩,hx⟩:=zda (wL ok x)
  exact ⟨H1,l,h1,by omega,fun x hx=>.inr (by rw [h2];exact h3 x hx),h4,by rw [h2];exact h5,hx _ ⟨by rw [h2];exact h6,h7⟩⟩
 cases e <;> first|exact ⟨.inl rfl,go q⟩|exact ⟨.inr rfl,go q⟩|exact q.elim
theorem XCut.mk' {n : Nat} {H : List Blk} {r : AV} {k : AV -> List Blk -> Prop} (H1 l : List Blk) (h1 : H1 ++ l = H) (h2 : H1.length = n) (h3 : ∀ x ∈ H1,x.low n = true) (h4 : r.low n = true) (h5 : k r H1) : XCut n [] H r k:=
 ⟨H1,l,h1.symm,h2,h3,by simp,by simp,h4,h5⟩
end
end GA
end
section
namespace GA
open Go Go.RowKit Go.Proofs
def sumW : List Nat -> Nat -> Nat
 | [],_=>0
 | w :: ws,s=>(if s % 2 = 1 then w else 0) + sumW ws (s / 2)
def wt (l : Ld) (s : Sk) : Nat:=(zO l s).toNat
def wts (l : Ld) : List Nat:=l.sacks.map (wt l)
def hvF (ws : List Nat) (n : Nat) : List Nat:=(List.range 512).map fun s=>if s < n then sumW ws s else 0
def ndI (n : Nat) : List Nat:=(List.range 9).map fun i=>if i < n then 2 ^ i else 0
theorem wr : ∀ ws : List Nat,sumW ws 0 = 0
 | []=>rfl
 | w :: ws=>by unfold sumW;rw [Nat.zero_div,wr ws];rfl
theorem zdZ : ∀ (ws : List Nat) (i k : Nat),k < 2 ^ i -> sumW ws (2 ^ i + k) = sumW ws k + ws.getD i 0
 | [],i,k,_=>by simp [sumW]
 | w :: ws,0,k,h=>by
   have : k = 0:=by simpa using h
   subst this
   simp [sumW,wr]
 | w :: ws,i + 1,k,h=>by
   have e : 2 ^ (i + 1) = 2 * 2 ^ i:=by rw [Nat.pow_succ];omega
   have e1 : (2 ^ (i + 1) + k) % 2 = k % 2:=by omega
   have e2 : (2 ^ (i + 1) + k) / 2 = 2 ^ i + k / 2:=by omega
   unfold sumW
   rw [e1,e2,zdZ ws i (k / 2) (by omega)]
   simp only [List.getD_cons_succ];omega
theorem qE : ∀ (ws : List Nat) (s : Nat),(∀ w ∈ ws,w <= 100) -> sumW ws s <= 100 * ws.length
 | [],_,_=>by simp [sumW]
 | w :: ws,s,h=>by
   have:=qE ws (s / 2) (fun x hx=>h x (List.mem_cons_of_mem _ hx))
   have:=h w List.mem_cons_self
   unfold sumW;simp only [List.length_cons];split <;> omega
theorem vG (ws : List Nat) (n : Nat) : (hvF ws n).length = 512:=by simp [hvF]
theorem jw (n : Nat) : (ndI n).length = 9:=by simp [ndI]
theorem zcW {ws : List Nat} {n k : Nat} (hk : k < 512) : (hvF ws n).getD k 0 = if k < n then sumW ws k else 0:=by
 unfold hvF;rw [List.getD_eq_getElem?_getD,List.getElem?_map,List.getElem?_range hk];rfl
theorem hvF_one (ws : List Nat) : hvF ws 1 = List.replicate 512 0:=by
 apply List.ext_getElem (by simp [hvF])
 intro i h1 h2
 simp only [hvF,List.getElem_map,List.getElem_range,List.getElem_replicate]
 split
 ·rw [show i = 0 by omega,wr]
 ·rfl
theorem hvF_set {ws : List Nat} {n v : Nat} (hn : n < 512) (hv : v = sumW ws n) : (hvF ws n).set n v = hvF ws (n + 1):=by
 subst hv
 apply List.ext_getElem (by simp [hvF])
 intro i h1 h2
 simp only [hvF,List.getElem_set,List.getElem_map,List.getElem_range]
 by_cases h : n = i
 ·subst h;rw [if_pos rfl,if_pos (by omega)]
 ·rw [if_neg h]
  by_cases h3 : i < n
  ·rw [if_pos h3,if_pos (by omega)]
  ·rw [if_neg h3,if_neg (by omega)]
theorem ndI_zero : ndI 0 = List.replicate 9 0:=by decide
theorem ndI_set {n : Nat} (hn : n < 9) : (ndI n).set n (2 ^ n) = ndI (n + 1):=by
 apply List.ext_getElem (by simp [ndI])
 intro i h1 h2
 simp only [ndI,List.getElem_set,List.getElem_map,List.getElem_range]
 by_cases h : n = i
 ·subst h;rw [if_pos rfl,if_pos (by omega)]
 ·rw [if_neg h]
  by_cases h3 : i < n
  ·rw [if_pos h3,if_pos (by omega)]
  ·rw [if_neg h3,if_neg (by omega)]
theorem gK (n : Nat) : ∀ i,(ndI n).getD i 0 < 512:=by
 intro i
 rcases Nat.lt_or_ge i 9 with h | h
 ·unfold ndI;rw [List.getD_eq_getElem?_getD,List.getElem?_map,List.getElem?_range h]
  simp only [Option.map_some,Option.getD_some]
  split
  ·have:=Nat.pow_le_pow_right (n:=2) (by omega) (show i <= 8 by omega);omega
  ·omega
 ·rw [List.getD_eq_getElem?_getD,List.getElem?_eq_none (by rw [jw];omega)];simp
theorem desk_hv (d : Dk) {i : Nat} (hi : i < d.hv.length) : (zy d)[5 + i]? = some (natA (d.hv.getD i 0)):=by
 unfold zy
 rw [show 5 + i = i + 1 + 1 + 1 + 1 + 1 by omega]
 simp only [List.getElem?_cons_succ]
 rw [List.getElem?_append_left (by simpa using hi),List.getElem?_map,List.getD_eq_getElem?_getD,List.getElem?_eq_getElem hi];rfl
theorem xdrop_dkW {d : Dk} {o : Nat} {k : List AV -> Prop} (i : Nat) (ho : o = 5 + i) (hi : i < d.hv.length) (h : k (natA (d.hv.getD i 0) :: (zy d).drop (o + 1))) : xdrop o (zy d) k:=
 zdV _ (by rw [ho];exact desk_hv d hi) h
theorem zaJ {c : List AV} {o : Nat} {v : AV} (ho : o < c.length) : splice c o [v] = c.set o v:=by
 rw [List.set_eq_take_append_cons_drop,if_pos ho];simp [splice]
theorem xspl_dkW {d : Dk} {o : Nat} {v : Int} {k : List AV -> Prop} (i m : Nat) (ho : o = 5 + i) (hv : v = (m : Int)) (hi : i < d.hv.length) (h : k (zy { d with hv:=d.hv.set i m })) : xspl (zy d) o [.int .i64 v] k:=by
 subst hv;subst ho
 have hl : 5 + i < (zy d).length:=by simp [zy];omega
 refine qW _ (by simp only [List.length_cons,List.length_nil];omega) ?_ h
 rw [zaJ hl]
 unfold zy
 rw [show 5 + i = i + 1 + 1 + 1 + 1 + 1 by omega]
 simp only [List.set_cons_succ]
 rw [List.set_append,if_pos (by simpa using hi)]
 simp only [nats,List.map_set,natA]
theorem xspl_dkN {d : Dk} {o : Nat} {v : Int} {k : List AV -> Prop} (i m : Nat) (hh : d.hv.length = 512) (ho : o = 517 + i) (hv : v = (m : Int)) (hi : i < d.nd.length) (h : k (zy { d with nd:=d.nd.set i m })) : xspl (zy d) o [.int .i64 v] k:=by
 subst hv;subst ho
 have hl : 517 + i < (zy d).length:=by simp [zy];omega
 refine qW _ (by simp only [List.length_cons,List.length_nil];omega) ?_ h
 rw [zaJ hl]
 unfold zy
 rw [show 517 + i = 512 + i + 1 + 1 + 1 + 1 + 1 by omega]
 simp only [List.set_cons_succ]
 rw [List.set_append,if_neg (by simp [hh]),List.length_map,hh,Nat.add_sub_cancel_left]
 simp only [nats,List.map_set,natA]
theorem zdS {d : Dk} {b : List Nat} {k : List AV -> Prop} (hh : d.hv.length = 512) (h1 : d.nd.length = 9) (h2 : b.length = 9) (h : k (zy { d with nd:=b })) : xspl (zy d) 517 (nats b) k:=by
 have hl : (zy d).length = 526:=by simp [zy,hh,h1]
 refine qW _ (by simp [hl,h2]) ?_ h
 have e : zy d = (.int .i64 d.l.bears :: .int .i64 d.l.shrink :: .sl d.l.nls (d.l.sacks.map skA) :: .sl d.l.nla (d.l.apart.map prA) :: .sl d.l.nlw (d.l.wth.map prA) :: nats d.hv) ++ nats d.nd:=rfl
 unfold splice
 rw [List.drop_eq_nil_of_le (by simp [hl,h2]),List.append_nil,e,List.take_left' (by simp [hh])]
 rfl
def zU (l : Ld) : Nat -> List Nat -> List Nat
 | 0,b=>b
 | n + 1,b=>if zE l b = b then b else zU l n (zE l b)
def msr (b : List Nat) : Nat:=(b.map fun x=>512 - x).sum
def zf (l : Ld) : Dk:=⟨l,hvF (wts l) (2 ^ l.sacks.length),zU l 5000 (ndI l.sacks.length)⟩
theorem fg (b : List Nat) (p : Int × Int) (i : Nat) : b.getD i 0 <= (zC b p).getD i 0:=by
 unfold zC
 simp only [List.getD_eq_getElem?_getD,List.getElem?_mapIdx]
 rcases Nat.lt_or_ge i b.length with h | h
 ·rw [List.getElem?_eq_getElem h]
  simp only [Option.map_some,Option.getD_some]
  split
  ·exact Nat.left_le_or
  ·exact Nat.le_refl _
 ·rw [List.getElem?_eq_none h];simp
theorem fZ : ∀ (ps : List (Int × Int)) (b : List Nat) (i : Nat),b.getD i 0 <= (ps.foldl zC b).getD i 0
 | [],_,_=>Nat.le_refl _
 | p :: ps,b,i=>by rw [List.foldl_cons];exact Nat.le_trans (fg b p i) (fZ ps _ i)
theorem zdY (l : Ld) (b : List Nat) (i : Nat) : b.getD i 0 <= (zE l b).getD i 0:=fZ _ _ _
theorem jA (l : Ld) (b : List Nat) : (zE l b).length = b.length:=gn _ _
theorem jT (l : Ld) (b : List Nat) (hs : ∀ i,b.getD i 0 < 512) : ∀ i,(zE l b).getD i 0 < 512:=by
 have:=gW l b hs l.wth.length
 unfold kd at this;rwa [List.take_length] at this
theorem msr_lt : ∀ (a b : List Nat),a.length = b.length -> (∀ i,a.getD i 0 <= b.getD i 0) -> (∀ i,b.getD i 0 < 512) -> a ≠ b -> msr b < msr a
 | [],[],_,_,_,h=>absurd rfl h
 | x :: a,y :: b,hl,h1,h2,h3=>by
   have g1:=h1 0
   have g2:=h2 0
   simp only [List.getD_cons_zero] at g1 g2
   have i1 : ∀ i,a.getD i 0 <= b.getD i 0:=fun i=>by simpa using h1 (i + 1)
   have i2 : ∀ i,b.getD i 0 < 512:=fun i=>by simpa using h2 (i + 1)
   simp only [msr,List.map_cons,List.sum_cons]
   by_cases hab : a = b
   ·subst hab
    have : x ≠ y:=fun e=>h3 (by rw [e])
    omega
   ·have:=msr_lt a b (by simpa using hl) i1 i2 hab
    unfold msr at this;omega
 | [],_ :: _,hl,_,_,_=>by simp at hl
 | _ :: _,[],hl,_,_,_=>by simp at hl
theorem msr_le (b : List Nat) (hb : b.length = 9) : msr b <= 4608:=by
 unfold msr
 match b,hb with
 | [a1,a2,a3,a4,a5,a6,a7,a8,a9],_=>simp;omega
theorem zes (l : Ld) (n : Nat) (b : List Nat) (h : zE l b ≠ b) : zU l (n + 1) b = zU l n (zE l b):=by
 show (if zE l b = b then b else _) = _;rw [if_neg h]
theorem fw (l : Ld) (n : Nat) (b : List Nat) (h : zE l b = b) : zU l n b = b:=by
 cases n with
 | zero=>rfl
 | succ n=>show (if zE l b = b then b else _) = _;rw [if_pos h]
end GA
end
section
namespace GA
open Go Go.RowKit Go.Proofs
structure LdOk (l : Ld) : Prop where
 n : l.sacks.length <= 9
 na : l.apart.length <= 8
 nw : l.wth.length <= 8
 b1 : 1 <= l.bears
 b2 : l.bears <= 100
 s1 : 0 <= l.shrink
 s2 : l.shrink <= 90
 sk : ∀ s ∈ l.sacks,1 <= s.m /\ s.m <= 100 /\ 0 <= s.o /\ s.o <= 5
 ap : ∀ p ∈ l.apart,0 <= p.1 /\ p.1 < l.sacks.length /\ 0 <= p.2 /\ p.2 < l.sacks.length /\ p.1 ≠ p.2
 wp : ∀ p ∈ l.wth,0 <= p.1 /\ p.1 < l.sacks.length /\ 0 <= p.2 /\ p.2 < l.sacks.length /\ p.1 ≠ p.2
theorem zL {n lo hi : Int} : inB n lo hi = true ↔ lo <= n /\ n <= hi:=by simp [inB]
theorem zB (l : Ld) : zi l = 0 ↔ LdOk l:=by
 unfold zi
 constructor
 ·intro h
  split at h
  ·cases h
  rename_i h1
  split at h
  ·cases h
  rename_i h2
  split at h
  ·cases h
  rename_i h3
  split at h
  ·cases h
  rename_i h4
  split at h
  ·cases h
  rename_i h5
  simp only [Bool.not_eq_false,Bool.and_eq_true,zL,List.all_eq_true,prIn,List.mem_append,bne_iff_ne] at h2 h3 h4 h5
  refine ⟨by omega,by omega,by omega,by omega,by omega,by omega,by omega,fun s hs=>?_,fun p hp=>?_,fun p hp=>?_⟩
  ·have:=h3 s hs;omega
  ·have a:=h4 p (.inl hp);have b:=h5 p (.inl hp);exact ⟨by omega,by omega,by omega,by omega,b⟩
  ·have a:=h4 p (.inr hp);have b:=h5 p (.inr hp);exact ⟨by omega,by omega,by omega,by omega,b⟩
 ·intro o
  rw [if_neg (by have:=o.n;have:=o.na;have:=o.nw;omega)]
  rw [if_neg (by simp only [Bool.not_eq_false,Bool.and_eq_true,zL];have:=o.b1;have:=o.b2;have:=o.s1;have:=o.s2;omega)]
  rw [if_neg (by simp only [Bool.not_eq_false,Bool.and_eq_true,zL,List.all_eq_true];intro s hs;have:=o.sk s hs;omega)]
  rw [if_neg (by
   simp only [Bool.not_eq_false,Bool.and_eq_true,zL,List.all_eq_true,prIn,List.mem_append]
   rintro p (hp | hp)
   ·have:=o.ap p hp;omega
   ·have:=o.wp p hp;omega)]
  rw [if_neg (by
   simp only [Bool.not_eq_false,List.all_eq_true,List.mem_append,bne_iff_ne]
   rintro p (hp | hp)
   ·exact (o.ap p hp).2.2.2.2
   ·exact (o.wp p hp).2.2.2.2)]
theorem vS {l : Ld} (o : LdOk l) {s : Sk} (hs : s ∈ l.sacks) : (wt l s : Int) = zO l s /\ 1 <= wt l s /\ wt l s <= 100:=by
 have h:=o.sk s hs
 have h1:=o.s1
 have h2:=o.s2
 have e : s.m * l.shrink <= s.m * 90:=Int.mul_le_mul_of_nonneg_left h2 (by omega)
 have e0 : 0 <= s.m * l.shrink:=Int.mul_nonneg (by omega) h1
 unfold wt zO
 omega
theorem zdp {l : Ld} (o : LdOk l) : ∀ w ∈ wts l,w <= 100:=by
 intro w hw
 obtain ⟨s,hs,rfl⟩:=List.mem_map.1 hw
 exact (vS o hs).2.2
theorem wts_get (l : Ld) {i : Nat} (hi : i < l.sacks.length) : (wts l).getD i 0 = wt l (l.sacks.getD i default):=by
 unfold wts;rw [List.getD_eq_getElem?_getD,List.getElem?_map,List.getD_eq_getElem?_getD,List.getElem?_eq_getElem hi];rfl
theorem hvF_le {l : Ld} (o : LdOk l) (n i : Nat) : (hvF (wts l) n).getD i 0 <= 900:=by
 rcases Nat.lt_or_ge i 512 with h | h
 ·rw [zcW h]
  split
  ·have h1:=qE (wts l) i (zdp o)
   have h2 : (wts l).length = l.sacks.length:=by simp [wts]
   have:=o.n
   omega
  ·omega
 ·rw [List.getD_eq_getElem?_getD,List.getElem?_eq_none (by rw [vG];omega)];simp
theorem lowOne {d : Dk} : ∀ x ∈ zy d,x.one = true:=by
 intro x hx
 simp only [zy,List.mem_cons,List.mem_append,List.mem_map] at hx
 rcases hx with rfl | rfl | rfl | rfl | rfl | ⟨_,_,rfl⟩ | ⟨_,_,rfl⟩ <;> rfl
def wY (l : Ld) : AV:=if zi l = 0 then .tup [.pim (zy (zf l)),.int .i64 0] else .tup [.nilp,.int .i64 (zi l)]
theorem arr_eq {xs ys : List Nat} : ((xs.map fun n : Nat=>(n : Int)) == (ys.map fun n : Nat=>(n : Int))) = (xs == ys):=by
 rw [Bool.eq_iff_iff,beq_iff_eq,beq_iff_eq]
 exact ⟨fun h=>(List.map_inj_right (fun _ _=>Int.ofNat.inj)).1 h,fun h=>by rw [h]⟩
theorem ww (b : List Nat) : nats b = (b.map fun n : Nat=>(n : Int)).map (.int .i64):=by simp [nats,natA]
set_option maxHeartbeats 1000000 in
theorem k9 (l : Ld) (hw : l.nla = true -> l.apart = []) (h1 : l.sacks.length <= 100000) (h2 : l.apart.length <= 1000) (h3 : l.wth.length <= 1000) : Comp Tryz.prog 26 [ldA l] (wY l):=by
 refine Comp.body' (T:=tab) (res:=[.tmp 2,.tmp 3]) zb [17] Tryz.func26 rfl (by kernel_rfl) Tryz.ntmps26 rfl (by simp only [List.length_cons,List.length_nil];decide) (by simp only [lowL,AV.low,ldL];rfl) ?_;conv=>whnf
 refine za.ret (kS l hw h1 h2 h3) ?_
 conv=>whnf
 repeat' first|((with_reducible apply XBr.bne) <;> (intro h;first|(exfalso;omega)|(conv=>whnf)))|fail
 ·refine ⟨?_⟩
  unfold wY;rw [if_neg h]
  exact Froz.low rfl
 have ok:=(zB l).1 h
 have g:=ok.n
 refine Walk.loopG zb [] (fun i : Nat=>i <= l.sacks.length) (fun i=>[(1,.pim (ldC l)),(5,.ptr 0 0),(19,.sl l.nls (l.sacks.map skA)),(20,.int .i64 l.sacks.length),(21,.int .i64 i)])
  (fun i=>[.cells (zy ⟨l,hvF (wts l) (2 ^ i),ndI i⟩)]) (fun i=>l.sacks.length - i) 0 (by omega) ?_ ⟨rfl,rfl,rfl,by simp only [List.length_map];rfl,rfl,trivial⟩ ?_ ?_ ?_
 ·rw [show 2 ^ 0 = 1 from rfl,hvF_one,ndI_zero];unfold zy;simp only [nats,List.map_replicate,List.replicate_append_replicate];rfl
 ·intro i _
  constructor
  ·intro x hx;simp at hx;subst hx
   simp only [Blk.low,yn]
  ·intro p hp;simp at hp;rcases hp with rfl | rfl | rfl | rfl | rfl <;> simp [AV.low,yU,jo]
 ·intro i _;simp
 ·intro i hi
  conv=>whnf
  repeat' first|((with_reducible apply XBr.dec) <;> (intro h;first|(exfalso;omega)|((try simp only [List.length_map] at h);first|(exfalso;omega)|(conv=>whnf))))|(((with_reducible refine XIx.nat ?_ ?_ ?_);omega;(intro _;rfl));conv=>whnf)|fail
  ·have p9:=pow9 (n:=i) (by omega)
   have hsm:=zu (xs:=l.sacks) (i:=i) (d:=default) (by omega)
   have hw2:=vS ok hsm
   have hok:=ok.sk _ hsm
   have hs1:=ok.s1
   have hs2:=ok.s2
   generalize hse : l.sacks.getD i default = s at hsm hw2 hok
   apply Walk.drawX zb zk [] [7] (hsC [[.cells (zy ⟨l,hvF (wts l) (2 ^ i),ndI i⟩),.cells [.int .i64 s.m,.int .i64 s.o]],[.cells (zy ⟨l,hvF (wts l) (2 ^ i),(ndI i).set i (2 ^ i)⟩),.cells [.int .i64 s.m,.int .i64 s.o]]])
    [_,_,_,natA (2 ^ i),_,_,_,_] (by kernel_rfl) rfl
   ·skip
    repeat' first|((with_reducible refine zj.mk ?_ ?_);(first | omega | rfl | decide|exact ⟨rfl,by decide,rfl⟩|exact zz _|exact zp _|exact zq _|(unfold Room;constructor <;> ((try simp) <;> omega))|exact ⟨rfl,by simp only [List.length_map],by unfold Room;constructor <;> ((try simp) <;> omega)⟩|exact ⟨by omega,by omega,by unfold Room;constructor <;> ((try simp) <;> omega)⟩);conv=>whnf)|(with_reducible apply XAnd.mk)|((first|(with_reducible apply Chk.go)|(with_reducible apply ChkA.go));conv=>whnf)|(exact zg.mk rfl rfl)|(with_reducible exact trivial)|((first|((with_reducible refine XArr.ptr ?_ ?_ ?_);omega;omega)|(refine XInt.eq (y:=((2 ^ i : Nat) : Int)) (kw (by omega)) (by omega) (by omega) ?_)|(refine xspl_dkN i (2 ^ i) (vG _ _) (by omega) rfl (by rw [jw];omega) ?_));conv=>whnf)|fail
   ·skip
    repeat' first|(with_reducible apply XAnd.mk)|((first|(with_reducible apply Chk.go)|(with_reducible apply ChkF.go)|(with_reducible apply ChkB.go));conv=>whnf)|(exact zg.mk rfl rfl)|(with_reducible exact trivial)|fail
   ·rw [ndI_set (by omega)]
    conv=>whnf
    repeat' first|((with_reducible refine zj.mk ?_ ?_);(first | omega | rfl | decide|exact ⟨rfl,by decide,rfl⟩|exact zz _|exact zp _|exact zq _|(unfold Room;constructor <;> ((try simp) <;> omega))|exact ⟨rfl,by simp only [List.length_map],by unfold Room;constructor <;> ((try simp) <;> omega)⟩|exact ⟨by omega,by omega,by unfold Room;constructor <;> ((try simp) <;> omega)⟩);conv=>whnf)|fail
    refine XInt.eq (y:=((2 ^ i : Nat) : Int)) (kw (by omega)) (by omega) (by omega) ?_
    conv=>whnf
    refine Walk.loop zb [] (fun k : Nat=>k <= 2 ^ i) (fun k=>[(1,.pim (ldC l)),(5,.ptr 0 0),(19,.sl l.nls (l.sacks.map skA)),(20,.int .i64 l.sacks.length),(21,.int .i64 i),(6,.int .i64 i),(7,.ptr 1 0),(34,.int .i64 (2 ^ i : Nat)),(35,.int .i64 k)])
     (fun k=>[.cells (zy ⟨l,hvF (wts l) (2 ^ i + k),ndI (i + 1)⟩),.cells [.int .i64 s.m,.int .i64 s.o]]) (fun k=>2 ^ i - k) 0 (by omega) rfl ⟨rfl,rfl,rfl,rfl,rfl,rfl,rfl,rfl,rfl,trivial⟩ ?_
    intro k hk
    conv=>whnf
    repeat' first|((with_reducible apply XBr.dec) <;> (intro h;first|(exfalso;omega)|((try simp only [List.length_map] at h);first|(exfalso;omega)|(conv=>whnf))))|((with_reducible refine XInt.i64 (by omega) (by omega) ?_);conv=>whnf)|fail
    ·have p8 : 2 ^ i <= 256:=Nat.pow_le_pow_right (n:=2) (by omega) (show i <= 8 by omega)
     have hk2 : k < 2 ^ i:=by omega
     have hle:=hvF_le ok (2 ^ i + k) k
     have hor : ior .i64 (k : Int) ((2 ^ i : Nat) : Int) = ((2 ^ i + k : Nat) : Int):=by
      rw [wP (by omega) (by omega)]
      have:=Nat.two_pow_add_eq_or_of_lt hk2 1
      rw [Nat.mul_one] at this;rw [this,Nat.or_comm]
     have hget : (hvF (wts l) (2 ^ i + k)).getD k 0 = sumW (wts l) k:=by rw [zcW (by omega),if_pos (by omega)]
     have hsum : sumW (wts l) (2 ^ i + k) = sumW (wts l) k + wt l s:=by rw [zdZ _ _ _ hk2,wts_get l (by omega),hse]
     have hset : (hvF (wts l) (2 ^ i + k)).set (2 ^ i + k) (sumW (wts l) k + wt l s) = hvF (wts l) (2 ^ i + (k + 1)):=hvF_set (by omega) hsum.symm
     rw [hget] at hle
     apply Walk.drawX zb zk [] [18] (hsC [[.cells (zy ⟨l,hvF (wts l) (2 ^ i + k),ndI (i + 1)⟩),.cells [.int .i64 s.m,.int .i64 s.o]],[.cells (zy ⟨l,hvF (wts l) (2 ^ i + (k + 1)),ndI (i + 1)⟩),.cells [.int .i64 s.m,.int .i64 s.o]]])
      [_,_,_,natA (2 ^ i),natA (2 ^ i + k),_,_,_,_,_,natA (sumW (wts l) k),_,_,natA (wt l s),natA (sumW (wts l) k + wt l s),_,_,_,_] (by kernel_rfl) rfl
     ·skip
      repeat' first|((with_reducible refine XInt.i64 (by omega) (by omega) ?_);conv=>whnf)|((with_reducible refine zj.mk ?_ ?_);(first | omega | rfl | decide|exact ⟨rfl,by decide,rfl⟩|exact zz _|exact zp _|exact zq _|(unfold Room;constructor <;> ((try simp) <;> omega))|exact ⟨rfl,by simp only [List.length_map],by unfold Room;constructor <;> ((try simp) <;> omega)⟩|exact ⟨by omega,by omega,by unfold Room;constructor <;> ((try simp) <;> omega)⟩);conv=>whnf)|(with_reducible apply XAnd.mk)|((first|(with_reducible apply Chk.go)|(with_reducible apply ChkA.go));conv=>whnf)|(exact zg.mk rfl rfl)|(with_reducible exact trivial)|((first|((with_reducible refine XArr.ptr ?_ ?_ ?_);omega;omega)|(refine XInt.eq (y:=((2 ^ i : Nat) : Int)) (kw (by omega)) (by omega) (by omega) ?_));conv=>whnf)|(exact zg.mk (congrArg (AV.int .i64) hor) rfl)|((refine xdrop_dkW (d:=⟨l,hvF (wts l) (2 ^ i + k),ndI (i + 1)⟩) k (by omega) (by rw [vG];omega) ?_);conv=>whnf)|(exact zg.mk (congrArg (fun n : Nat=>AV.int .i64 n) hget) rfl)|((refine za.ret (zaF l s (by omega) (by omega) (by omega) (by omega)) ?_);conv=>whnf)|(exact zg.mk (congrArg (AV.int .i64) hw2.1.symm) rfl)|(((refine xspl_dkW (d:=⟨l,hvF (wts l) (2 ^ i + k),ndI (i + 1)⟩) (2 ^ i + k) (sumW (wts l) k + wt l s) (by omega) rfl (by rw [vG];omega) ?_);dsimp only;rw [hset]);conv=>whnf)|fail
     ·skip
      repeat' first|(with_reducible apply XAnd.mk)|((first|(with_reducible apply Chk.go)|(with_reducible apply ChkF.go)|(with_reducible apply ChkB.go));conv=>whnf)|(exact zg.mk rfl rfl)|(with_reducible exact trivial)|fail
     ·conv=>whnf
      repeat' first|((with_reducible refine XInt.i64 (by omega) (by omega) ?_);conv=>whnf)|fail
      exact zh.go (k + 1) (by omega) (by omega) rfl ⟨rfl,rfl,rfl,rfl,rfl,rfl,rfl,rfl,rfl,trivial⟩
    ·have hke : k = 2 ^ i:=by omega
     refine zw.go (i + 1) [.cells [.int .i64 s.m,.int .i64 s.o]] (by omega) (by omega) ?_ ⟨rfl,rfl,rfl,rfl,rfl,trivial⟩
     subst hke
     rw [show 2 ^ (i + 1) = 2 ^ i + 2 ^ i by rw [Nat.pow_succ];omega];rfl
  ·have hie : i = l.sacks.length:=by omega
   subst hie
   clear hi h g
   have hfin : wY l = .tup [.pim (zy ⟨l,hvF (wts l) (2 ^ l.sacks.length),zU l 5000 (ndI l.sacks.length)⟩),.int .i64 0]:=by
    unfold wY;rw [if_pos ((zB l).2 ok)];rfl
   have hl:=vG (wts l) (2 ^ l.sacks.length)
   have bl:=jw l.sacks.length
   have bs:=gK l.sacks.length
   generalize hvF (wts l) (2 ^ l.sacks.length) = hv at hl hfin ⊢
   generalize ndI l.sacks.length = b0 at bl bs hfin ⊢
   have hwp : ∀ p ∈ l.wth,0 <= p.1 /\ p.1 < 9 /\ 0 <= p.2 /\ p.2 < 9:=fun p hp=>by have:=ok.wp p hp;have:=ok.n;omega
   have jl:=jA l b0
   generalize hcl : zU l 5000 b0 = res at hfin
   apply Walk.drawX zb zk [] [6,7] (hsC [[.cells (zy ⟨l,hv,b0⟩)],[.cells (zy ⟨l,hv,b0⟩),.cells (nats (List.replicate 9 0))],[.cells (zy ⟨l,hv,b0⟩),.cells (nats (zE l b0))]])
    [_,_,_,_,.agg (nats b0),.agg (nats (zE l b0)),_,_] (by kernel_rfl) rfl
   ·skip
    repeat' first|(with_reducible apply XAnd.mk)|((first|(with_reducible apply Chk.go)|(with_reducible apply ChkA.go));conv=>whnf)|(exact zg.mk rfl rfl)|(with_reducible exact trivial)|((first|(with_reducible refine vL (by rw [List.length_map];omega) ?_)|(refine jq (by rw [List.length_map];exact bl) ?_)|(refine za.ret (qy l b0 bl bs ok.nw hwp) ?_)|(refine zaj (by rw [List.length_map,jl];exact bl) ?_)|(refine ga (by rw [List.length_map,List.length_map,List.length_replicate];omega) ?_));conv=>whnf)|fail
   ·skip
    repeat' first|(with_reducible apply XAnd.mk)|((first|(with_reducible apply Chk.go)|(with_reducible apply ChkF.go)|(with_reducible apply ChkB.go));conv=>whnf)|(exact zg.mk rfl rfl)|(with_reducible exact trivial)|((first|(with_reducible refine vL (by rw [List.length_map];omega) ?_)|(refine jq (by rw [List.length_map];exact bl) ?_)|(refine za.ret (qy l b0 bl bs ok.nw hwp) ?_));conv=>whnf)|fail
   ·conv=>whnf
    refine Walk.loopR zb [] (fun g : Option (List Nat) × Nat × List Nat=>g.2.2.length = 9 /\ (∀ i,g.2.2.getD i 0 < 512) /\ zU l g.2.1 g.2.2 = res /\ msr g.2.2 < g.2.1)
     (fun g=>[(1,.pim (ldC l)),(5,.ptr 0 0),(9,.ptr (match g.1 with | none=>1 | some _=>2) 0)])
     (fun g=>match g.1 with | none=>[.cells (zy ⟨l,hv,g.2.2⟩),.cells (nats (zE l g.2.2))] | some x=>[.cells (zy ⟨l,hv,g.2.2⟩),.cells (nats x),.cells (nats (zE l g.2.2))])
     (fun g=>g.2.1) (none,5000,b0) 2 ⟨bl,bs,hcl,by have:=msr_le b0 bl;dsimp only;omega⟩ rfl rfl ⟨rfl,rfl,rfl,trivial⟩ ?_
    rintro ⟨ph,n,b⟩ ⟨gl,gs,gc,gm⟩
    dsimp only at gl gs gc gm ⊢
    have jl:=jA l b
    have js:=jT l b gs
    have jl2:=jA l (zE l b)
    have hn : n = n - 1 + 1:=by omega
    have hge : zE l b ≠ b -> msr (zE l b) < msr b:=fun h=>msr_lt _ _ jl.symm (zdY l b) js (fun e=>h e.symm)
    have hstep : zE l b ≠ b -> zU l (n - 1) (zE l b) = res:=fun h=>by
     have:=zes l (n - 1) b h
     rw [<- hn] at this;rw [<- this];exact gc
    rcases ph with _ | x
    ·skip
     conv=>whnf
     apply Walk.drawX zb zk [] [] (hsK _) [.agg (nats (zE l b)),_,_,_,.agg (nats b),.bool (zE l b != b)] (by kernel_rfl) rfl
     ·skip
      repeat' first|(with_reducible apply XAnd.mk)|((first|(with_reducible apply Chk.go)|(with_reducible apply ChkA.go));conv=>whnf)|(exact zg.mk rfl rfl)|(with_reducible exact trivial)|((first|(with_reducible refine vL (by rw [List.length_map];omega) ?_)|(refine jq (by rw [List.length_map];first|exact gl|(rw [jl];exact gl)) ?_));conv=>whnf)|fail
      refine ⟨_,_,ww _,ww _,by simp [jl],by rw [List.length_map,jl,gl],?_⟩
      exact zg.mk (by rw [arr_eq];rfl) rfl
     ·skip
      repeat' first|(with_reducible apply XAnd.mk)|((first|(with_reducible apply ChkF.go)|(with_reducible apply ChkB.go));conv=>whnf)|(with_reducible exact trivial)|fail
     ·conv=>whnf
      repeat' first|((first|(refine jq (by rw [List.length_map];first|exact gl|(rw [jl];exact gl)) ?_)|((refine zaj (by rw [List.length_map];first|(rw [jl];exact gl)|(rw [jl2,jl];exact gl)) ?_);(first|(refine zdS (d:=⟨l,hv,b⟩) hl gl (by rw [jl];exact gl) ?_) | skip))|(refine ga (by simp [jl2,jl,gl]) ?_)|(refine za.ret (qy l (zE l b) (by rw [jl];exact gl) js ok.nw hwp) ?_));conv=>whnf)|((with_reducible apply XBr.mk') <;> (intro h;conv=>whnf))|fail
      ·have hne : zE l b ≠ b:=by simpa using h
       have:=hge hne
       have:=hstep hne
       exact qj.go (some (zE l b),n - 1,zE l b) [0,1,2] ⟨by dsimp only;omega,js,this,by dsimp only;omega⟩ (by dsimp only;omega) ⟨rfl,by decide,fun i hi=>by rcases i with _ | _ | i <;> first | rfl|(exfalso;omega),by decide⟩
        (fun x hx=>by simp at hx;rcases hx with rfl | rfl | rfl <;> first|exact yn _|exact lowN _)
        (fun i x hi hx=>by rcases i with _ | _ | i <;> first|(cases hx;first|exact yn _|exact lowN _)|(exfalso;omega))
        ⟨.inl ⟨rfl,yn _⟩,.inl ⟨rfl,lowN _⟩,.inl ⟨rfl,lowN _⟩,trivial⟩
        ⟨⟨.inl ⟨rfl,jo _⟩,jo _⟩,⟨.inl ⟨rfl,rfl⟩,rfl⟩,⟨.inr rfl,rfl⟩,trivial⟩
      ·have he : zE l b = b:=by simpa using h
       rw [fw _ _ _ he] at gc
       rw [<- gc] at hfin
       rw [hfin]
       exact ⟨Froz.tup (.cons (Froz.ptr rfl (lowOne (d:=⟨l,hv,b⟩)) (jH.low (yn _))) (.cons (Froz.low rfl) .nil))⟩
    ·skip
     conv=>whnf
     apply Walk.drawX zb zk [] [] (hsK _) [.agg (nats (zE l b)),_,_,_,.agg (nats b),.bool (zE l b != b)] (by kernel_rfl) rfl
     ·skip
      repeat' first|(with_reducible apply XAnd.mk)|((first|(with_reducible apply Chk.go)|(with_reducible apply ChkA.go));conv=>whnf)|(exact zg.mk rfl rfl)|(with_reducible exact trivial)|((first|(with_reducible refine vL (by rw [List.length_map];omega) ?_)|(refine jq (by rw [List.length_map];first|exact gl|(rw [jl];exact gl)) ?_));conv=>whnf)|fail
      refine ⟨_,_,ww _,ww _,by simp [jl],by rw [List.length_map,jl,gl],?_⟩
      exact zg.mk (by rw [arr_eq];rfl) rfl
     ·skip
      repeat' first|(with_reducible apply XAnd.mk)|((first|(with_reducible apply ChkF.go)|(with_reducible apply ChkB.go));conv=>whnf)|(with_reducible exact trivial)|fail
     ·conv=>whnf
      repeat' first|((first|(refine jq (by rw [List.length_map];first|exact gl|(rw [jl];exact gl)) ?_)|((refine zaj (by rw [List.length_map];first|(rw [jl];exact gl)|(rw [jl2,jl];exact gl)) ?_);(first|(refine zdS (d:=⟨l,hv,b⟩) hl gl (by rw [jl];exact gl) ?_) | skip))|(refine ga (by simp [jl2,jl,gl]) ?_)|(refine za.ret (qy l (zE l b) (by rw [jl];exact gl) js ok.nw hwp) ?_));conv=>whnf)|((with_reducible apply XBr.mk') <;> (intro h;conv=>whnf))|fail
      ·have hne : zE l b ≠ b:=by simpa using h
       have:=hge hne
       have:=hstep hne
       exact qj.go (some x,n - 1,zE l b) [0,1,3] ⟨by dsimp only;omega,js,this,by dsimp only;omega⟩ (by dsimp only;omega) ⟨rfl,by decide,fun i hi=>by rcases i with _ | _ | i <;> first | rfl|(exfalso;omega),by decide⟩
        (fun x hx=>by simp at hx;rcases hx with rfl | rfl | rfl <;> first|exact yn _|exact lowN _)
        (fun i x hi hx=>by rcases i with _ | _ | i <;> first|(cases hx;first|exact yn _|exact lowN _)|(exfalso;omega))
        ⟨.inl ⟨rfl,yn _⟩,.inl ⟨rfl,lowN _⟩,.inl ⟨rfl,lowN _⟩,trivial⟩
        ⟨⟨.inl ⟨rfl,jo _⟩,jo _⟩,⟨.inl ⟨rfl,rfl⟩,rfl⟩,⟨.inr rfl,rfl⟩,trivial⟩
      ·have he : zE l b = b:=by simpa using h
       rw [fw _ _ _ he] at gc
       rw [<- gc] at hfin
       rw [hfin]
       exact ⟨Froz.tup (.cons (Froz.ptr rfl (lowOne (d:=⟨l,hv,b⟩)) (jH.low (yn _))) (.cons (Froz.low rfl) .nil))⟩
end GA
end
section
namespace GA
open Go Go.RowKit
def hsV (H : List Blk) (l : List (List Blk -> List Blk)) (fl : List Bool) : List Blk:=match lget l (fl.countP id) with | some f=>f H | none=>H
def hsW (H : List Blk) (l : List (List Blk -> List Blk)) (fl : List Bool) : List Blk:=match lget l (bin fl) with | some f=>f H | none=>H
def look (n : Int) : List (Int × Nat) -> Option Nat
 | []=>none
 | (k,u) :: l=>if k = n then some u else look n l
def putm (n : Int) (v : Nat) : List (Int × Nat) -> List (Int × Nat)
 | []=>[(n,v)]
 | (k,u) :: l=>if k = n then (k,v) :: l else (k,u) :: putm n v l
def esA (m : List (Int × Nat)) : List (Int × AV):=m.map fun p=>(p.1,.int .i64 p.2)
theorem zee (n : Int) : ∀ m : List (Int × Nat),mget n (esA m) = (look n m).map fun v : Nat=>AV.int .i64 v
 | []=>rfl
 | (k,u) :: l=>by
   have:=zee n l
   simp only [esA,List.map_cons,mget,look] at this ⊢
   split
   ·rfl
   ·exact this
theorem zdC (n : Int) (v : Nat) : ∀ m : List (Int × Nat),mput n (.int .i64 v) (esA m) = esA (putm n v m)
 | []=>rfl
 | (k,u) :: l=>by
   have:=zdC n v l
   simp only [esA,List.map_cons,mput,putm] at this ⊢
   split
   ·rfl
   ·simp only [List.map_cons,this]
theorem qi (n k : Int) (v : Nat) : ∀ m : List (Int × Nat),look k (putm n v m) = if k = n then some v else look k m
 | []=>by simp only [putm,look];split <;> split <;> simp_all
 | (j,u) :: l=>by
   have:=qi n k v l
   simp only [putm]
   split
   ·rename_i e
    subst e
    simp only [look]
    split
    ·rename_i e;rw [if_pos e.symm]
    ·rename_i e;rw [if_neg (fun h=>e h.symm)]
   ·rename_i e
    simp only [look]
    split
    ·rename_i e2;subst e2;rw [if_neg e]
    ·exact this
theorem fO {n : Nat} (m : List (Int × Nat)) : (Blk.map (esA m)).low n = true:=by
 simp only [Blk.low,esA,List.map_map]
 exact zt.2 fun x hx=>by obtain ⟨p,_,rfl⟩:=List.mem_map.1 hx;rfl
theorem ren_esA (f : Nat -> Nat) (m : List (Int × Nat)) : (Blk.map (esA m)).ren f = .map (esA m):=Blk.ren_low (n:=0) (fun i hi=>by omega) (fO m)
end GA
end
section
namespace GA
open Go Go.RowKit Go.Proofs
theorem jk.run {P : Program} {i : Nat} {H : List Blk} {K : List Blk -> Prop} {S : Type} (upd : List Blk -> S -> List Blk) (step : S -> Nat -> S) (I : S -> List Nat -> Prop)
  (x : ∀ s c cs,I s (c :: cs) -> wH P i [natA c] (upd H s) (fun r H'=>r = .bool true /\ H' = upd H (step s c)) /\ I (step s c) cs) :
  ∀ (cs : List Nat) (s : S),I s cs -> K (upd H (cs.foldl step s)) -> jk P i K cs (upd H s)
 | [],s,_,hk=>hk
 | c :: cs,s,hI,hk=>by
   obtain ⟨h1,h2⟩:=x s c cs hI
   refine ⟨vc.mono h1.o ?_⟩
   rintro r H' ⟨rfl,rfl⟩
   exact .inl ⟨rfl,jk.run upd step I x cs _ h2 hk⟩
theorem jk.go {P : Program} {i : Nat} {H : List Blk} {K : List Blk -> Prop} {S : Type} {cs : List Nat} (upd : List Blk -> S -> List Blk) (step : S -> Nat -> S) (I : S -> List Nat -> Prop) (s0 : S) (hH : upd H s0 = H)
  (x : ∀ s c cs,I s (c :: cs) -> wH P i [natA c] (upd H s) (fun r H'=>r = .bool true /\ H' = upd H (step s c)) /\ I (step s c) cs) (hI : I s0 cs) (hk : K (upd H (cs.foldl step s0))) : jk P i K cs H:=by
 have:=jk.run upd step I x cs s0 hI hk
 rwa [hH] at this
def ofM (d : Dk) : Nat -> Nat -> List (Int × Nat) -> Nat × List (Int × Nat)
 | 0,_,m=>(0,m)
 | f + 1,set,m=>match look set m with
   | some v=>(v,m)
   | none =>
     let r:=(yD d set).foldl (fun (p : Nat × List (Int × Nat)) c=>(min p.1 ((ofM d f (diff set c) p.2).1 + 1),(ofM d f (diff set c) p.2).2)) (10,m)
     (r.1,putm set r.1 r.2)
def yk (d : Dk) (f set : Nat) (p : Nat × List (Int × Nat)) (c : Nat) : Nat × List (Int × Nat):=(min p.1 ((ofM d f (diff set c) p.2).1 + 1),(ofM d f (diff set c) p.2).2)
theorem qM (d : Dk) (f set : Nat) (m : List (Int × Nat)) : ofM d (f + 1) set m = match look set m with
  | some v=>(v,m)
  | none=>(((yD d set).foldl (yk d f set) (10,m)).1,putm set ((yD d set).foldl (yk d f set) (10,m)).1 ((yD d set).foldl (yk d f set) (10,m)).2):=rfl
structure MOk (m : List (Int × Nat)) : Prop where
 z : look 0 m = some 0
 le : ∀ k v,look k m = some v -> v <= 10
theorem ji (d : Dk) : ∀ (f set : Nat) (m : List (Int × Nat)),MOk m -> (ofM d f set m).1 <= 10 /\ MOk (ofM d f set m).2
 | 0,set,m,h=>⟨by simp [ofM],h⟩
 | f + 1,set,m,h=>by
   rw [qM]
   cases hl : look (set : Int) m with
   | some v=>exact ⟨h.le _ _ hl,h⟩
   | none =>
     have fold : ∀ (cs : List Nat) (p : Nat × List (Int × Nat)),p.1 <= 10 -> MOk p.2 -> (cs.foldl (yk d f set) p).1 <= 10 /\ MOk (cs.foldl (yk d f set) p).2:=by
      intro cs
      induction cs with
      | nil=>intro p h1 h2;exact ⟨h1,h2⟩
      | cons c cs ih =>
        intro p h1 h2
        rw [List.foldl_cons]
        obtain ⟨h3,h4⟩:=ji d f (diff set c) p.2 h2
        exact ih _ (by simp only [yk];omega) h4
     obtain ⟨h1,h2⟩:=fold (yD d set) (10,m) (Nat.le_refl 10) h
     have hne : (0 : Int) ≠ set:=fun e=>by rw [<- e,h.z] at hl;cases hl
     refine ⟨h1,by rw [qi,if_neg hne];exact h2.z,fun k v e=>?_⟩
     rw [qi] at e
     split at e
     ·cases e;exact h1
     ·exact h2.le k v e
theorem zV (a b i : Nat) : (diff a b).testBit i = (a.testBit i && !b.testBit i):=by
 unfold diff;simp only [Nat.testBit_xor,Nat.testBit_and]
 cases a.testBit i <;> cases b.testBit i <;> rfl
def Sub (a b : Nat) : Prop:=∀ i,a.testBit i = true -> b.testBit i = true
theorem Sub.le {a b : Nat} (h : Sub a b) : a <= b:=by
 have : a &&& b = a:=by
  apply Nat.eq_of_testBit_eq;intro i;rw [Nat.testBit_and]
  cases e : a.testBit i
  ·rfl
  ·rw [h i e];rfl
 rw [<- this];exact Nat.and_le_right
theorem zal (s : Nat) : Sub (lowb s) s:=fun i h=>by unfold lowb at h;rw [zV,Bool.and_eq_true] at h;exact h.1
theorem zdo : ∀ s : Fin 512,s.val ≠ 0 -> lowb s.val ≠ 0:=by decide +kernel
theorem lowb_pos {s : Nat} (h0 : 0 < s) (h : s < 512) : lowb s ≠ 0:=zdo ⟨s,h⟩ (by simp only;omega)
theorem zbb (d : Dk) (set : Nat) : ∀ (f rest : Nat),Sub rest (diff set (lowb set)) -> ∀ c ∈ ko d set f rest,∃ r,c = r ||| lowb set /\ Sub r (diff set (lowb set)) /\ zn d c = true
 | 0,_,_,c,hc=>by simp [ko] at hc
 | f + 1,rest,hr,c,hc=>by
   rw [je,List.mem_append] at hc
   rcases hc with hc | hc
   ·split at hc
    ·rename_i h;simp only [List.mem_singleton] at hc;subst hc;exact ⟨rest,rfl,hr,h⟩
    ·simp at hc
   ·split at hc
    ·simp at hc
    ·refine zbb d set f _ (fun i hi=>?_) c hc
     rw [zV,Nat.testBit_and,Bool.and_eq_true,Bool.and_eq_true] at hi
     rw [zV,hi.1.2,hi.2];rfl
theorem jC (d : Dk) {set c : Nat} (hc : c ∈ yD d set) : Sub c set /\ Sub (lowb set) c /\ zn d c = true:=by
 obtain ⟨r,rfl,h1,h2⟩:=zbb d set 512 _ (fun i h=>h) c hc
 refine ⟨fun i h=>?_,fun i h=>by rw [Nat.testBit_or,h,Bool.or_true],h2⟩
 rw [Nat.testBit_or,Bool.or_eq_true] at h
 rcases h with h | h
 ·have:=h1 i h;rw [zV,Bool.and_eq_true] at this;exact this.1
 ·exact zal set i h
theorem diff_lt {set c : Nat} (h0 : 0 < set) (h9 : set < 512) (hl : Sub (lowb set) c) : diff set c < set:=by
 have h1:=jW set c
 rcases Nat.lt_or_ge (diff set c) set with h | h
 ·exact h
 ·exfalso
  have he : diff set c = set:=by omega
  apply lowb_pos h0 h9
  apply Nat.eq_of_testBit_eq;intro i
  rw [Nat.zero_testBit]
  cases hb : (lowb set).testBit i
  ·rfl
  ·have h2:=hl i hb
   have h3:=zal set i hb
   have h4:=zV set c i
   rw [he,h2,h3] at h4;cases h4
theorem zd3 (d : Dk) {set c : Nat} (hs : 0 < set) (h9 : set < 512) (hc : c ∈ yD d set) : diff set c < set /\ c < 512:=by
 obtain ⟨h1,h2,_⟩:=jC d hc
 exact ⟨diff_lt hs h9 h2,by have:=h1.le;omega⟩
def ofC (d : Dk) (j : Nat) : AV:=.fn 85 [.ptr (j + 1) 0,.pim [.pim (zy d)],.ptr (j + 2) 0]
def ofH (d : Dk) (m : List (Int × Nat)) : List Blk:=[.map (esA m),.cells [.mp 0],.cells [ofC d 0]]
def OfOk (d : Dk) (f set : Nat) (m : List (Int × Nat)) : Prop:=
 yo Tryz.prog 85 [natA set,.ptr 1 0,.pim [.pim (zy d)],.ptr 2 0] (ofH d m) fun r H'=>r = natA (ofM d f set m).1 /\ H' = ofH d (ofM d f set m).2
theorem zcI (d : Dk) (m : List (Int × Nat)) : ∀ x ∈ ofH d m,x.low 3 = true:=by
 intro x hx
 simp only [ofH,List.mem_cons,List.not_mem_nil,or_false] at hx
 rcases hx with rfl | rfl | rfl
 ·exact fO m
 ·rfl
 ·simp only [Blk.low,ofC,lowL,AV.low,yn];rfl
theorem za.of {d : Dk} {f set : Nat} {m : List (Int × Nat)} (x : OfOk d f set m) {H : List Blk} {k : AV -> List Blk -> Prop} (j : Nat) (h0 : lget H j = some (.map (esA m))) (h1 : lget H (j + 1) = some (.cells [.mp j])) (h2 : lget H (j + 2) = some (.cells [ofC d j]))
  (hk : k (natA (ofM d f set m).1) (H.set j (.map (esA (ofM d f set m).2)))) : za Tryz.prog 85 [natA set,.ptr (j + 1) 0,.pim [.pim (zy d)],.ptr (j + 2) 0] H k:=by
 constructor
 have e:=yo.frame (ρ:=fun i=>j + i) (H:=H) (k:=k) x (fun a b _ _ h=>by have : j + a = j + b:=h;omega) ?_ (zcI d m) ?_ ?_
 ·have hd : renL (fun i=>j + i) (zy d) = zy d:=wq (yn d)
  simp only [List.map_cons,List.map_nil,natA,AV.ren,renL,hd] at e
  exact e
 ·intro i x1 hi
  rw [zr] at h0 h1 h2
  rcases i with _ | _ | _ | i
  ·simp only [ofH,List.getElem?_cons_zero,Option.some.injEq] at hi;subst hi
   rw [ren_esA];exact h0
  ·simp only [ofH,List.getElem?_cons_succ,List.getElem?_cons_zero,Option.some.injEq] at hi;subst hi
   exact h1
  ·simp only [ofH,List.getElem?_cons_succ,List.getElem?_cons_zero,Option.some.injEq] at hi;subst hi
   simp only [Blk.ren,renL,ofC,AV.ren,wq (yn d)]
   exact h2
  ·simp [ofH] at hi
 ·simp only [ofH,List.length_cons,List.length_nil,lowL,AV.low,natA,yn];rfl
 ·rintro r1 H1' ⟨rfl,rfl⟩
  rw [zr] at h0 h1 h2
  have hj:=(List.getElem?_eq_some_iff.1 h0).1
  refine ⟨rfl,H.set j (.map (esA (ofM d f set m).2)),by simp,fun i x1 hi=>?_,fun q hq=>?_,hk⟩
  ·rcases i with _ | _ | _ | i
   ·simp only [ofH,List.getElem?_cons_zero,Option.some.injEq] at hi;subst hi
    rw [ren_esA];simp [hj]
   ·simp only [ofH,List.getElem?_cons_succ,List.getElem?_cons_zero,Option.some.injEq] at hi;subst hi
    rw [List.getElem?_set_ne (by simp)];exact h1
   ·simp only [ofH,List.getElem?_cons_succ,List.getElem?_cons_zero,Option.some.injEq] at hi;subst hi
    rw [List.getElem?_set_ne (by simp)]
    simp only [Blk.ren,renL,ofC,AV.ren,wq (yn d)]
    exact h2
   ·simp [ofH] at hi
  ·exact List.getElem?_set_ne (by have:=hq 0 (by simp [ofH]);simpa using this)
theorem of_c (d : Dk) (ok : zdn d) : ∀ (f set : Nat) (m : List (Int × Nat)),set < f -> set < 512 -> MOk m -> OfOk d f set m
 | 0,set,m,hf,_,_=>by omega
 | f + 1,set,m,hf,hs,hM=>by
   have h0:=hM.z
   unfold OfOk
   refine yo.bodyK (T:=tab) (res:=[.tmp 5]) zb [] Tryz.func85 rfl (by kernel_rfl) Tryz.ntmps85 rfl (by simp only [List.length_cons,List.length_nil];decide) ?_;conv=>whnf
   refine XGetM.mk' (zee _ _) ?_
   cases hl : look (set : Int) m with
   | some v =>
     conv=>whnf
     repeat' first|((with_reducible apply XBr.tt);conv=>whnf)|(with_reducible apply XBr.not)|fail
     refine XCut.mk' (ofH d m) [.cells [natA v]] rfl rfl (zcI d m) rfl ?_
     rw [qM,hl];exact ⟨rfl,rfl⟩
   | none =>
     conv=>whnf
     repeat' first|((with_reducible apply XBr.ff);conv=>whnf)|(with_reducible apply XBr.not)|fail
     refine za.ret (zcJ d set) ?_
     conv=>whnf
     refine Walk.range (own:=[]) zb [(3,.ptr 2 0),(4,.pim [natA set]),(6,.ptr 3 0)] rfl ⟨rfl,rfl,rfl,trivial⟩ ?_
     intro fn
     refine zac d ok set 5 hs _ _ ?_
     have hpos : 0 < set:=by
      rcases Nat.eq_zero_or_pos set with e | e
      ·subst e;rw [show ((0 : Nat) : Int) = 0 from rfl,h0] at hl;cases hl
      ·exact e
     refine jk.go (S:=Nat × List (Int × Nat)) (fun H s=>(H.set 0 (.map (esA s.2))).set 3 (.cells [natA s.1])) (yk d f set) (fun s cs=>s.1 <= 10 /\ MOk s.2 /\ ∀ c ∈ cs,diff set c < set /\ c < 512) (10,m) rfl ?_ ⟨Nat.le_refl 10,hM,fun c hc=>zd3 d hpos hs hc⟩ ?_
     ·rintro ⟨n,m'⟩ c cs ⟨g0,g1,g2⟩
      dsimp only at g0 g1 g2 ⊢
      have hc:=(g2 c List.mem_cons_self).1
      have hc512 : c < 9223372036854775808:=by have:=(g2 c List.mem_cons_self).2;omega
      refine ⟨wH.go (own:=[]) zb rfl rfl (by decide) ?_,?_⟩
      ·intro ρ
       conv=>whnf
       have e1 : iandn .i64 (set : Int) (c : Int) = ((diff set c : Nat) : Int):=ke (by omega) hc512
       have hof:=of_c d ok f (diff set c) m' (by omega) (by omega) g1
       obtain ⟨q1,q2⟩:=ji d f (diff set c) m' g1
       generalize hq : ofM d f (diff set c) m' = q at q1 q2
       apply Walk.drawX zb zk [] [5,8] (hsV _ [id,fun H=>H.set 0 (.map (esA q.2)),fun H=>(H.set 0 (.map (esA q.2))).set 3 (.cells [natA (min n (q.1 + 1))])])
        [natA n,ofC d 0,natA set,natA c,natA (diff set c),natA q.1,natA (q.1 + 1),natA (min n (q.1 + 1)),_] (by kernel_rfl) rfl
       ·skip
        repeat' first|((with_reducible refine XInt.i64 (by omega) (by omega) ?_);conv=>whnf)|(with_reducible apply XAnd.mk)|((first|(with_reducible apply Chk.go)|(with_reducible apply ChkA.go));conv=>whnf)|(exact zg.mk rfl rfl)|(with_reducible exact trivial)|(exact zg.mk (congrArg (AV.int .i64) e1) rfl)|(((refine za.of hof 0 rfl rfl rfl ?_);rw [hq]);conv=>whnf)|(exact zg.mk (congrArg (AV.int .i64) (by omega)) rfl)|fail
       ·skip
        repeat' first|(with_reducible apply XAnd.mk)|((first|(with_reducible apply Chk.go)|(with_reducible apply ChkF.go)|(with_reducible apply ChkB.go));conv=>whnf)|(exact zg.mk rfl rfl)|(with_reducible exact trivial)|(exact zg.mk (congrArg (AV.int .i64) (by omega)) rfl)|fail
       ·conv=>whnf
        skip
        subst hq
        exact ⟨rfl,rfl⟩
      ·exact ⟨by have:=(ji d f (diff set c) m' g1).1;simp only [yk];omega,(ji d f (diff set c) m' g1).2,fun c hc=>g2 c (List.mem_cons_of_mem _ hc)⟩
     ·conv=>whnf
      skip
      refine ⟨ofH d (putm set ((yD d set).foldl (yk d f set) (10,m)).1 ((yD d set).foldl (yk d f set) (10,m)).2),[.cells [natA ((yD d set).foldl (yk d f set) (10,m)).1],.raw (.deferred (some [])),.dead],?_,rfl,zcI d _,by simp,?_,rfl,?_⟩
      ·rw [show mput (set : Int) (natA _) (esA _) = _ from zdC _ _ _];rfl
      ·intro i hi;simp at hi;subst hi;exact ⟨by simp [ofH],rfl⟩
      ·rw [qM,hl];exact ⟨rfl,rfl⟩
end GA
end
section
namespace GA
open Go Go.RowKit
section
variable {P : Program} {T : Tab} {N : Nat} {ρ : Option Nat} {own : List Nat} {D : List Nat} {σ : St} {H : List Blk} {Q : Post} {E : Env} {h : Nat -> Option Obj} {β : Nat -> Value} {w : World} {a : Act}
theorem DfL.mem {en : Nat -> Option Obj} {D : List Nat} {ds : List Deferred} (d : DfL P h β H en D ds) {b : Nat} (hb : ({ target:=.collected b,args:=#[] } : Deferred) ∈ ds) : (∃ j ∈ D,Rep P h β H (.yld j) (.func (.yield b) #[] #[])) \/ h b = some (.deferred (some [])):=by
 induction d with
 | nil=>simp at hb
 | @own i b' D ds r t ih =>
   rcases List.mem_cons.1 hb with e | e
   ·cases e;exact .inl ⟨i,List.mem_cons_self,r⟩
   ·rcases ih e with ⟨j,h1,h2⟩ | h1
    ·exact .inl ⟨j,List.mem_cons_of_mem _ h1,h2⟩
    ·exact .inr h1
 | @lost b' D ds h1 he nd t ih =>
   rcases List.mem_cons.1 hb with e | e
   ·cases e;exact .inr h1
   ·exact ih e
theorem DfL.lose {en : Nat -> Option Obj} {h' : Nat -> Option Obj} {H' : List Blk} {i b : Nat} {D0 : List Nat} {ds : List Deferred} (s : SR P E h β H w) (X : Ext h β H h' β H') (hbo : blkOf β H i = some b) (hb' : h' b = some (.deferred (some []))) (he : en b = none) (hm : h b = none) (hi : H[i]? = some (.raw (.deferred (some []))))
  (d : DfL P h β H en D0 ds) : ∀ {D : List Nat},D0 = i :: D -> i ∉ D -> (∀ j ∈ D,H[j]? = some (.raw (.deferred (some [])))) -> DfL P h' β H' en D ds:=by
 induction d with
 | nil=>intro D e;cases e
 | @own i' b' D' ds r t ih =>
   intro D e hni hD
   cases e
   have hbb : b' = b:=by
    cases r with
    | yld hlv hb =>
      have hbi:=hb _ hi rfl
      have : blkOf β H i = some b':=by simp only [blkOf,hi,hbi];rfl
      rw [hbo] at this;cases this;rfl
   subst hbb
   refine .lost hb' he (fun b2 hb2=>?_) (t.ext X)
   rintro rfl
   rcases t.mem hb2 with ⟨j,h1,h2⟩ | h1
   ·cases h2 with
    | yld hlv hb =>
      have hj:=hD j h1
      have hbj:=hb _ hj rfl
      have : blkOf β H j = some b2:=by simp only [blkOf,hj,hbj];rfl
      exact hni (s.own _ _ _ hbo this ▸ h1)
   ·rw [hm] at h1;cases h1
 | @lost b' D' ds h1 he' nd t ih =>
   intro D e hni hD
   exact .lost (X.imm _ _ h1) he' nd (ih e hni hD)
theorem yS.lose : ∀ {D : List Nat} {h : Nat -> Option Obj} {H : List Blk},yS P E N h β D σ H a w -> D.Nodup -> (∀ i ∈ D,H[i]? = some (.raw (.deferred (some [])))) ->
  ∃ h' H',yS P E N h' β [] σ H' a w /\ Ext h β H h' β H' /\ H'.length = H.length /\ ∀ j,j ∉ D -> H'[j]? = H[j]?
 | [],h,H,s,_,_=>⟨h,H,s,Ext.refl _ _ _,rfl,fun _ _=>rfl⟩
 | i :: D,h,H,s,hnd,hD=>by
   have hi:=hD i List.mem_cons_self
   obtain ⟨b,hb1,hb2⟩:=s.sr.blk i _ hi
   have hbo : blkOf β H i = some b:=by simp only [blkOf,hi,hb1];rfl
   have hm:=s.sr.fresh _ _ hbo
   have he : E.en b = none:=by
    cases hx : E.en b with
    | none=>rfl
    | some o=>rw [s.df.en b o hx] at hm;cases hm
   obtain ⟨h1,s1,X1,hf⟩:=s.sr.freeze hi
   have hni:=(List.nodup_cons.1 hnd).1
   have hDs : ∀ j ∈ D,H[j]? = some (.raw (.deferred (some []))):=fun j hj=>hD j (List.mem_cons_of_mem _ hj)
   have d1:=DfL.lose s.sr X1 hbo (hf b _ hbo hb2) he hm hi s.df.l rfl hni hDs
   have s2 : yS P E N h1 β D σ (H.set i .dead) a w:=⟨s1,s.fits.ext X1,s.size,⟨(s.df.ext X1).en,d1⟩⟩
   obtain ⟨h',H',s3,X3,hl,ho⟩:=yS.lose s2 (List.nodup_cons.1 hnd).2 (fun j hj=>by rw [List.getElem?_set_ne (show i ≠ j from fun e=>hni (by rw [e];exact hj))];exact hDs j hj)
   refine ⟨h',H',s3,X1.trans X3,by rw [hl];simp,fun j hj=>?_⟩
   rw [ho j (fun h=>hj (List.mem_cons_of_mem _ h)),List.getElem?_set_ne (show i ≠ j from fun e=>hj (by rw [<- e];exact List.mem_cons_self))]
theorem Walk.norm {id : Nat} {ops : Array Oper} (ok : zA P T) (own : List Nat) (L : List (Nat × AV)) (hs : SubX L σ) (x : XReg P T N own ops.toList ops.toList (stX L) H (Q .normal D)) : Walk P N ρ (.region id ops false) Q D σ H:=
 ⟨AWp.weaken (yN hs) (AWp.regionX ok x)⟩
structure MarksOk (D : List Nat) (H : List Blk) (f : Nat -> Nat) (n : Nat) : Prop where
 nd : D.Nodup
 raw : ∀ i ∈ D,H[i]? = some (.raw (.deferred (some [])))
 out : ∀ i,i < n -> f i ∉ D
theorem AWp.loopM {c : Code} {G : Type} (st : G -> St) (hp : G -> List Blk) (μ : G -> Nat) (g0 : G) (hσ : ∀ t r,st g0 t = some r -> σ t = some r) (hH : hp g0 = H) (hD : D = [])
  (round : ∀ g,AWp P N ρ c (yW (fun D' σ' H'=>∃ g' f,μ g' < μ g /\ MarksOk D' H' f (hp g').length /\ RenS f H.length (hp g') (st g') H' σ') Q) D (st g) (hp g)) : AWp P N ρ (.loop c) Q D σ H:=by
 intro E h β a w s
 subst hH;subst hD
 let I : G -> Act -> World -> Prop:=fun g a w=>∃ h' β',Ext h β (hp g0) h' β' (hp g) /\ yS P E N h' β' [] (st g) (hp g) a w
 have least : ∀ a w,(∃ g,I g a w) -> ∃ n,(∃ g,I g a w /\ μ g = n) /\ ∀ m,m < n -> ¬ ∃ g,I g a w /\ μ g = m:=
  fun a w ⟨g,hg⟩=>kq ⟨μ g,g,hg,rfl⟩
 classical
 let M : Act -> World -> Nat:=fun a w=>if e : ∃ g,I g a w then Classical.choose (least a w e) else 0
 have hM : ∀ a w (e : ∃ g,I g a w),(∃ g,I g a w /\ μ g = M a w) /\ ∀ g,I g a w -> M a w <= μ g:=by
  intro a w e
  have hc:=Classical.choose_spec (least a w e)
  have hm : M a w = Classical.choose (least a w e):=by simp only [M,dif_pos e]
  rw [hm]
  refine ⟨hc.1,fun g hg=>?_⟩
  rcases Nat.lt_or_ge (μ g) (Classical.choose (least a w e)) with hlt | hge
  ·exact absurd ⟨g,hg,rfl⟩ (hc.2 _ hlt)
  ·exact hge
 refine wpIn_loop (fun a w=>∃ g,I g a w) M ⟨g0,h,β,Ext.refl _ _ _,s.sr,fun t r e=>s.fits t r (hσ t r e),s.size,s.df⟩ ?_
 intro a' w' hI
 obtain ⟨⟨g,hg,hmu⟩,_⟩:=hM a' w' hI
 obtain ⟨h',β',X,s'⟩:=hg
 refine wpIn_mono (round g E h' β' a' w' s') ?_
 rintro e a'' w'' ⟨D'',σ'',H0',h0',β'',q,X0',s0''⟩
 cases e with
 | normal =>
   obtain ⟨g',f,hlt,m,r0⟩:=q
   obtain ⟨h'',H'',s'',X1,hl,ho⟩:=s0''.lose m.nd m.raw
   have X':=X0'.trans X1
   have hm : ∀ (i : Nat) x1,(hp g')[i]? = some x1 -> H''[f i]? = some (x1.ren f):=fun i x1 e=>by
    rw [ho _ (m.out i (List.getElem?_eq_some_iff.1 e).1)];exact r0.hm i x1 e
   have R : Ren f (fun i=>β'' (f i)) (hp g') β'' H'':=⟨hm,fun _ _=>rfl⟩
   have hI' : I g' a'' w'':=by
    refine ⟨h'',fun i=>β'' (f i),⟨(X.trans X').imm,r0.len,fun i x x' e e'=>?_⟩,R.sr s''.sr r0.inj r0.low,fun t r e=>?_,s''.size,s''.df.any⟩
    ·have hi:=(List.getElem?_eq_some_iff.1 e).1
     have h1:=hm i x' e'
     rw [r0.fix i hi,r0.lowb i x' hi e'] at h1
     have h2:=(X.trans X').to i x x' e h1
     cases x with
     | dead=>exact h2
     | free=>trivial
     | _=>simpa only [Blk.to,r0.fix i hi] using h2
    ·obtain ⟨h1,h2⟩:=r0.st t r e
     obtain ⟨v,h3,h4⟩:=s''.fits t _ h1
     exact ⟨v,h3,R.unrep h4 rfl h2⟩
   refine ⟨⟨g',hI'⟩,?_⟩
   have:=(hM a'' w'' ⟨g',hI'⟩).2 g' hI'
   omega
 | _=>exact ⟨D'',σ'',H0',h0',β'',q,X.trans X0',s0''⟩
structure qK {G : Type} (I : G -> Prop) (L : G -> List (Nat × AV)) (hp : G -> List Blk) (μ : G -> Nat) (base : Nat) (g : G) (D' : List Nat) (σ' : St) (H' : List Blk) : Prop where
 o : ∃ g' f,I g' /\ μ g' < μ g /\ MarksOk D' H' f (hp g').length /\ RenS f base (hp g') (stX (L g')) H' σ'
theorem Walk.loopM {c : Code} {G : Type} (ok : zA P T) (own : List Nat) (I : G -> Prop) (L : G -> List (Nat × AV)) (hp : G -> List Blk) (μ : G -> Nat) (g0 : G) (base : Nat) (h0 : I g0) (hH : hp g0 = H) (hb : base = H.length) (hs : SubX (L g0) σ)
  (round : ∀ g,I g -> XRun P T N ρ own c (yW (qK I L hp μ base g) Q) [] (stX (L g)) (hp g)) : Walk P N ρ (.loop c) Q [] σ H:=by
 constructor
 refine AWp.loopM (G:={g : G // I g}) (fun g=>stX (L g.1)) (fun g=>hp g.1) (fun g=>μ g.1) ⟨g0,h0⟩ (yN hs) hH rfl fun g=>?_
 refine (XRun.sound ok (round g.1 g.2)).mono fun e D' σ' H' q=>?_
 cases e with
 | normal=>obtain ⟨g',f,h2,h3,h4,h5⟩:=q;exact ⟨⟨g',h2⟩,f,h3,h4,hb ▸ h5⟩
 | _=>exact q
theorem stX_mem : ∀ (l : List (Nat × AV)) t r,stX l t = some r -> (t,r) ∈ l:=by
 intro l;induction l with
 | nil=>intro t r h;cases h
 | cons p l ih =>
   obtain ⟨u,x⟩:=p
   intro t r h;simp only [stX,yZ,upd] at h
   split at h
   ·rename_i e;cases h;subst e;exact List.mem_cons_self
   ·exact List.mem_cons_of_mem _ (ih t r h)
theorem AV.ren_id (a : AV) : a.ren id = a:=by
 refine AV.rec (motive_1:=fun a=>a.ren id = a) (motive_2:=fun l=>renL id l = l) ?_ ?_ ?_ ?_ ?_ ?_ ?_ ?_ ?_ ?_ ?_ ?_ ?_ ?_ ?_ ?_ ?_ ?_ ?_ ?_ ?_ a
 all_goals first|(intros;rfl)|(intro cs ih;simp only [AV.ren,ih])|(intro f cs ih;simp only [AV.ren,ih])|(intro x l ih1 ih2;simp only [renL,ih1,ih2])
theorem Blk.ren_id (x : Blk) : x.ren id = x:=by
 have hL : ∀ l : List AV,renL id l = l:=fun l=>by have:=AV.ren_id (.agg l);simpa [AV.ren] using this
 cases x with
 | cells cs=>simp only [Blk.ren,hL]
 | grow t nl els=>simp only [Blk.ren,hL]
 | map es =>
   simp only [Blk.ren]
   have : ∀ p ∈ es,(fun p : Int × AV=>(p.1,p.2.ren id)) p = id p:=fun p _=>by simp only [AV.ren_id];rfl
   rw [List.map_congr_left this,List.map_id]
 | pm es =>
   simp only [Blk.ren]
   have : ∀ p ∈ es,(fun p : (Int × Int) × AV=>(p.1,p.2.ren id)) p = id p:=fun p _=>by simp only [AV.ren_id];rfl
   rw [List.map_congr_left this,List.map_id]
 | lp st pend f tm ps x y n =>
   simp only [Blk.ren]
   have : ∀ p ∈ tm,(fun p : Nat × AV=>(p.1,p.2.ren id)) p = id p:=fun p _=>by simp only [AV.ren_id];rfl
   rw [List.map_congr_left this,List.map_id]
 | _=>rfl
theorem qK.go {G : Type} {I : G -> Prop} {L : G -> List (Nat × AV)} {hp : G -> List Blk} {μ : G -> Nat} {base : Nat} {g : G} {D : List Nat} (g' : G) (l : List Blk) (h1 : I g') (h2 : μ g' < μ g) (h3 : hp g' ++ l = H) (h4 : SubX (L g') σ) (hb : base <= (hp g').length)
  (h5 : ∀ x ∈ hp g',x.low (hp g').length = true) (h6 : ∀ p ∈ L g',p.2.low (hp g').length = true) (hnd : D.Nodup) (hD : ∀ i ∈ D,(hp g').length <= i /\ lget H i = some (.raw (.deferred (some [])))) : qK I L hp μ base g D σ H:=
 ⟨g',id,h1,h2,⟨hnd,fun i hi=>by have:=(hD i hi).2;rwa [zr] at this,fun i hi h=>by have:=(hD _ h).1;simp only [id] at this;omega⟩,
  ⟨fun _ _ _ _ e=>e,fun _ _=>rfl,hb,fun i x1 e=>by
   rw [<- h3,Blk.ren_id];simp only [id]
   rw [List.getElem?_append_left (List.getElem?_eq_some_iff.1 e).1];exact e,fun _ x1 _ _=>Blk.ren_id x1,h5,fun t r e=>by
   refine ⟨by rw [AV.ren_id];exact yN h4 t r e,h6 (t,r) (stX_mem _ _ _ e)⟩⟩⟩
end
end GA
end
section
namespace GA
open Go Go.RowKit Go.Proofs
abbrev allD (d : Dk) : Nat:=2 ^ d.l.sacks.length - 1
def yp (d : Dk) (many n left : Nat) (p : Nat × List (Int × Nat)) (c : Nat) : Nat × List (Int × Nat):=
 (if (ofM d 512 (diff left c) p.2).1 + n + 1 = many /\ (p.1 = 0 \/ c &&& lowb (c ^^^ p.1) ≠ 0) then c else p.1,(ofM d 512 (diff left c) p.2).2)
def jP (d : Dk) (many n left : Nat) (m : List (Int × Nat)) : Nat × List (Int × Nat):=(yD d left).foldl (yp d many n left) (0,m)
def qh (n : Nat) (out : List Nat) (is : List Int) : List Nat:=is.foldl (fun o i=>o.set i.toNat n) out
structure LS where
 left : Nat
 m : List (Int × Nat)
 out : List Nat
def qk (d : Dk) (many : Nat) (s : LS) (n : Nat) : LS:=⟨diff s.left (jP d many n s.left s.m).1,(jP d many n s.left s.m).2,qh n s.out (bits (jP d many n s.left s.m).1)⟩
def zai (d : Dk) : LS:=⟨allD d,(ofM d 512 (allD d) [(0,0)]).2,List.replicate d.l.sacks.length 0⟩
def yq (d : Dk) (many n : Nat) : LS:=(List.range n).foldl (qk d many) (zai d)
def ye (d : Dk) : Nat:=(ofM d 512 (allD d) [(0,0)]).1
def kT (d : Dk) : AV:=if 9 < ye d then .tup [.sl true [],.int .i64 0,.int .i64 6] else .tup [.sl false (nats (yq d (ye d) (ye d)).out),natA (ye d),.int .i64 0]
def yQ (l : Ld) : AV:=if zi l = 0 then kT (zf l) else .tup [.sl true [],.int .i64 0,.int .i64 (zi l)]
theorem MOk.zero : MOk [(0,0)]:=⟨rfl,fun k v h=>by simp only [look] at h;split at h <;> cases h;omega⟩
theorem qd (l : Ld) : ∀ (n : Nat) (b : List Nat),(zU l n b).length = b.length
 | 0,_=>rfl
 | n + 1,b=>by
   show (if zE l b = b then b else zU l n (zE l b)).length = _
   split
   ·rfl
   ·rw [qd l n,jA]
theorem qP (l : Ld) : ∀ (n : Nat) (b : List Nat),(∀ i,b.getD i 0 < 512) -> ∀ i,(zU l n b).getD i 0 < 512
 | 0,_,h=>h
 | n + 1,b,h=>by
   show ∀ i,(if zE l b = b then b else zU l n (zE l b)).getD i 0 < 512
   split
   ·exact h
   ·exact qP l n _ (jT l b h)
theorem yG {l : Ld} (o : LdOk l) : zdn (zf l) where
 hv:=vG _ _
 nd:=by show (zU l 5000 _).length = 9;rw [qd,jw]
 small:=qP l _ _ (gK _)
 big:=fun i=>by have:=hvF_le o (2 ^ l.sacks.length) i;show (hvF _ _).getD i 0 < _;omega
 al:=by show l.apart.length <= 1000;have:=o.na;omega
 ap:=fun p hp=>by have:=o.ap p hp;have:=o.n;omega
theorem pick_ok (d : Dk) (many n left : Nat) : ∀ (cs : List Nat) (p : Nat × List (Int × Nat)),MOk p.2 -> (∀ c ∈ cs,Sub c left) -> Sub p.1 left -> MOk (cs.foldl (yp d many n left) p).2 /\ Sub (cs.foldl (yp d many n left) p).1 left
 | [],p,h1,_,h2=>⟨h1,h2⟩
 | c :: cs,p,h1,h2,h3=>by
   rw [List.foldl_cons]
   refine pick_ok d many n left cs _ ?_ (fun c hc=>h2 c (List.mem_cons_of_mem _ hc)) ?_
   ·exact (ji d 512 (diff left c) p.2 h1).2
   ·simp only [yp];split
    ·exact h2 c List.mem_cons_self
    ·exact h3
theorem Sub.zero (a : Nat) : Sub 0 a:=fun i h=>by rw [Nat.zero_testBit] at h;cases h
theorem zcQ (d : Dk) (many n left : Nat) (m : List (Int × Nat)) (h : MOk m) : MOk (jP d many n left m).2 /\ Sub (jP d many n left m).1 left:=
 pick_ok d many n left _ _ h (fun c hc=>(jC d hc).1) (Sub.zero _)
theorem vD (n : Nat) : ∀ (is : List Int) (out : List Nat),(qh n out is).length = out.length
 | [],_=>rfl
 | i :: is,out=>by rw [qh,List.foldl_cons];exact (vD n is _).trans (by simp)
structure LSOk (d : Dk) (s : LS) : Prop where
 left : s.left <= allD d
 m : MOk s.m
 out : s.out.length = d.l.sacks.length
theorem zd2 (d : Dk) (many : Nat) (s : LS) (n : Nat) (h : LSOk d s) : LSOk d (qk d many s n):=
 ⟨Nat.le_trans (jW _ _) h.left,(zcQ d many n s.left s.m h.m).1,by simp only [qk,vD];exact h.out⟩
theorem zae (d : Dk) : LSOk d (zai d):=⟨Nat.le_refl _,(ji d 512 _ _ MOk.zero).2,by simp [zai]⟩
theorem qc (d : Dk) (many n : Nat) : yq d many (n + 1) = qk d many (yq d many n) n:=by
 unfold yq;rw [List.range_succ,List.foldl_append];rfl
theorem qv (d : Dk) (many : Nat) : ∀ n,LSOk d (yq d many n)
 | 0=>zae d
 | n + 1=>by rw [qc];exact zd2 d many _ n (qv d many n)
theorem vt (l : Ld) (hw : l.nla = true -> l.apart = []) (h1 : l.sacks.length <= 100000) (h2 : l.apart.length <= 1000) (h3 : l.wth.length <= 1000) : Comp Tryz.prog 7 [ldA l] (yQ l):=by
 refine Comp.body' (T:=tab) (res:=[.tmp 2,.tmp 3,.tmp 4]) zb [] Tryz.func7 rfl (by kernel_rfl) Tryz.ntmps7 rfl (by simp only [List.length_cons,List.length_nil];decide) (by simp only [lowL,AV.low,ldL];rfl) ?_;conv=>whnf
 refine za.ret (k9 l hw h1 h2 h3) ?_
 unfold wY yQ
 by_cases hc : zi l = 0
 ·rw [if_pos hc,if_pos hc]
  have ok:=(zB l).1 hc
  have dok:=yG ok
  have hn : (zf l).l = l:=rfl
  have hall : allD (zf l) < 512:=by have:=pow9 ok.n;show 2 ^ l.sacks.length - 1 < 512;omega
  conv=>whnf
  repeat' first|((with_reducible apply XBr.bne) <;> (intro h;first|(exfalso;omega)|(conv=>whnf)))|fail
  refine za.inl (T:=tab) (res:=[.cell 2 70]) zb [] Tryz.func27 rfl (by kernel_rfl) Tryz.ntmps27 rfl (by simp only [List.length_append,List.length_cons,List.length_nil];decide) ?_;conv=>whnf
  skip
  have hof:=of_c _ dok 512 (allD (zf l)) [(0,0)] hall hall MOk.zero
  have hle:=(ji (zf l) 512 (allD (zf l)) _ MOk.zero).1
  have h0:=zae (zf l)
  generalize hq : ofM (zf l) 512 (allD (zf l)) [(0,0)] = q at hle
  apply Walk.drawX zb zk [] [4,5,6] (hsW _ [id,fun H=>H.set 1 (.map (esA q.2)),fun H=>H ++ [.cells [.int .i64 0]],fun H=>(H.set 1 (.map (esA q.2))) ++ [.cells [.int .i64 0]],id,id,id,fun H=>(H.set 1 (.map (esA q.2))) ++ [.cells [natA q.1]]])
   [_,_,_,natA (allD (zf l)),natA q.1,_,_] (by kernel_rfl) rfl
  ·skip
   repeat' first|(with_reducible apply XAnd.mk)|((first|(with_reducible apply Chk.go)|(with_reducible apply ChkA.go));conv=>whnf)|(exact zg.mk rfl rfl)|(with_reducible exact trivial)|((first|(refine za.ret (fb (zf l) ok.n) ?_)|((refine za.of hof 1 rfl rfl rfl ?_);rw [hq]));conv=>whnf)|fail
  ·skip
   repeat' first|(with_reducible apply XAnd.mk)|((first|(with_reducible apply Chk.go)|(with_reducible apply ChkF.go)|(with_reducible apply ChkB.go));conv=>whnf)|(exact zg.mk rfl rfl)|(with_reducible exact trivial)|((first|(refine za.ret (fb (zf l) ok.n) ?_)|((refine za.of hof 1 rfl rfl rfl ?_);rw [hq]));conv=>whnf)|fail
  ·conv=>whnf
   have hfin : kT (zf l) = if 9 < q.1 then .tup [.sl true [],.int .i64 0,.int .i64 6] else .tup [.sl false (nats (yq (zf l) q.1 q.1).out),natA q.1,.int .i64 0]:=by
    unfold kT ye;rw [hq]
   have hI0 : yq (zf l) q.1 0 = ⟨allD (zf l),q.2,List.replicate l.sacks.length 0⟩:=by
    show zai (zf l) = _;unfold zai;rw [hq,hn]
   have ha : ∀ x,za Tryz.prog 28 [.pim (zy (zf l))] x = za Tryz.prog 28 [.pim (zy (zf l))] x:=fun _=>rfl
   have hallc:=fb (zf l) ok.n
   clear h0 hq
   generalize hd : zf l = d at *
   clear hd
   have hdn : d.l.sacks.length = l.sacks.length:=by rw [hn]
   repeat' first|((with_reducible apply XBr.dec) <;> (intro h;first|(exfalso;omega)|((try simp only [List.length_map] at h);first|(exfalso;omega)|(conv=>whnf))))|((with_reducible refine zj.mk ?_ ?_);(first | omega | rfl | decide|exact ⟨rfl,by decide,rfl⟩|exact zz _|exact zp _|exact zq _|(unfold Room;constructor <;> ((try simp) <;> omega))|exact ⟨rfl,by simp only [List.length_map],by unfold Room;constructor <;> ((try simp) <;> omega)⟩|exact ⟨by omega,by omega,by unfold Room;constructor <;> ((try simp) <;> omega)⟩);conv=>whnf)|fail
   ·rename_i h
    exact ⟨by rw [hfin,if_pos (by omega)];exact Froz.low rfl⟩
   ·rename_i h
    refine za.ret hallc ?_
    conv=>whnf
    rw [if_neg (by omega)] at hfin
    refine Walk.loopM zb [] (fun n : Nat=>n <= q.1) (fun n=>[(5,.pim (zy d)),(7,.ptr 4 0),(8,.ptr 5 0),(9,.gr 6 l.sacks.length),(10,.ptr 7 0),(40,natA q.1),(41,natA n)])
     (fun n=>[.cells [ofC d 1],.map (esA (yq d q.1 n).m),.cells [.mp 1],.cells [ofC d 1],.cells [ofC d 1],.cells [natA q.1],.grow 3 false (nats (yq d q.1 n).out),.cells [natA (yq d q.1 n).left]])
     (fun n=>q.1 - n) 0 8 (by omega) ?_ rfl ⟨rfl,rfl,rfl,by simp only [List.length_map,Int.toNat_natCast];rfl,rfl,rfl,rfl,trivial⟩ ?_
    ·rw [hI0]
     have e1 : (allD d : Nat) = 2 ^ d.l.sacks.length - 1:=rfl
     simp only [nats,List.map_replicate,e1,List.length_map,Int.toNat_natCast];rfl
    ·intro n hnq
     have sok:=qv d q.1 n
     have hnext:=qc d q.1 n
     generalize hs : yq d q.1 n = s at sok hnext
     obtain ⟨left,m0,out0⟩:=s
     obtain ⟨k1,k2,k3⟩:=sok
     dsimp only at k1 k2 k3
     have hlen9:=ok.n
     conv=>whnf
     repeat' first|((with_reducible apply XBr.dec) <;> (intro h;first|(exfalso;omega)|((try simp only [List.length_map] at h);first|(exfalso;omega)|(conv=>whnf))))|fail
     ·refine za.ret (zcJ d left) ?_
      conv=>whnf
      refine Walk.range (own:=[]) zb [(5,.pim (zy d)),(7,.ptr 4 0),(8,.ptr 5 0),(10,.ptr 7 0),(11,.ptr 8 0),(12,.ptr 9 0)] rfl ⟨rfl,rfl,rfl,rfl,rfl,rfl,trivial⟩ ?_
      intro fn
      refine zac d dok left 11 (by omega) _ _ ?_
      refine jk.go (S:=Nat × List (Int × Nat)) (fun H s=>(H.set 1 (.map (esA s.2))).set 9 (.cells [natA s.1])) (yp d q.1 n left) (fun s cs=>Sub s.1 left /\ MOk s.2 /\ ∀ c ∈ cs,Sub c left) (0,m0) rfl ?_ ⟨Sub.zero _,k2,fun c hc=>(jC d hc).1⟩ ?_
      ·rintro ⟨b,m'⟩ c cs ⟨g0,g1,g2⟩
       dsimp only at g0 g1 g2 ⊢
       have gc:=g2 c List.mem_cons_self
       have gc2:=gc.le
       have g02:=g0.le
       obtain ⟨qq,hqq⟩ : ∃ x,ofM d 512 (diff left c) m' = x:=⟨_,rfl⟩
       have hdl:=jW left c
       have hof2:=of_c d dok 512 (diff left c) m' (by omega) (by omega) g1
       obtain ⟨q1,q2⟩:=ji d 512 (diff left c) m' g1
       rw [hqq] at q1 q2
       refine ⟨wH.go (own:=[]) zb rfl rfl (by decide) ?_,?_⟩
       ·intro ρ
        have e1 : iandn .i64 (left : Int) (c : Int) = ((diff left c : Nat) : Int):=ke (by omega) (by omega)
        have e2 : ixor .i64 (c : Int) (b : Int) = ((c ^^^ b : Nat) : Int):=zd9 (by omega) (by omega)
        have hx9 : c ^^^ b < 512:=Nat.xor_lt_two_pow (n:=9) (by omega) (by omega)
        have e3:=fH hx9
        have hlb:=zc5 (c ^^^ b)
        have e4 : iand .i64 (c : Int) ((lowb (c ^^^ b) : Nat) : Int) = ((c &&& lowb (c ^^^ b) : Nat) : Int):=w7 (by omega) (by omega)
        have hand : c &&& lowb (c ^^^ b) <= c:=Nat.and_le_left
        conv=>whnf
        by_cases hA : qq.1 + n + 1 = q.1
        ·have eA : ((qq.1 : Int) == (q.1 : Int) - (n : Int) - 1) = true:=by rw [beq_iff_eq];omega
         by_cases hB : b = 0
         ·have eB : ((b : Int) == 0) = true:=by rw [beq_iff_eq];omega
          have hp : yp d q.1 n left (b,m') c = (c,qq.2):=by simp only [yp,hqq];rw [if_pos ⟨hA,.inl hB⟩]
          apply Walk.drawX zb zk [] [5] (hsV _ [id,fun H=>H.set 1 (.map (esA qq.2))])
           [_,_,_,_,natA (diff left c),natA qq.1,_,_,_,_,.bool true,_,_,.bool true,_,_,_,_,_,_,_,_,_,_] (by kernel_rfl) rfl
          ·skip
           repeat' first|((first|(with_reducible apply XBr.tt)|(with_reducible refine XInt.i64 (by omega) (by omega) ?_));conv=>whnf)|(with_reducible apply XAnd.mk)|((first|(with_reducible apply Chk.go)|(with_reducible apply ChkA.go));conv=>whnf)|(exact zg.mk rfl rfl)|(with_reducible exact trivial)|(exact zg.mk (congrArg (AV.int .i64) e1) rfl)|(((refine za.of hof2 1 rfl rfl rfl ?_);rw [hqq]);conv=>whnf)|(exact zg.mk (congrArg AV.bool eA) rfl)|(exact zg.mk (congrArg AV.bool eB) rfl)|fail
          ·skip
           repeat' first|((first|(with_reducible apply XBr.tt)|(with_reducible refine XInt.i64 (by omega) (by omega) ?_));conv=>whnf)|(with_reducible apply XAnd.mk)|((first|(with_reducible apply Chk.go)|(with_reducible apply ChkF.go)|(with_reducible apply ChkB.go));conv=>whnf)|(exact zg.mk rfl rfl)|(with_reducible exact trivial)|(exact zg.mk (congrArg AV.bool eB) rfl)|fail
          ·rw [hp]
           conv=>whnf
           repeat' first|((with_reducible apply XBr.tt);conv=>whnf)|fail
           exact ⟨rfl,rfl⟩
         ·have eB : ((b : Int) == 0) = false:=by rw [beq_eq_false_iff_ne];omega
          apply Walk.drawX zb zk [] [5] (hsV _ [id,fun H=>H.set 1 (.map (esA qq.2))])
           [_,_,_,_,natA (diff left c),natA qq.1,_,_,_,_,.bool true,_,_,.bool false,_,_,natA (c ^^^ b),natA (c ^^^ b),_,natA (lowb (c ^^^ b)),natA (c &&& lowb (c ^^^ b)),_,_,_] (by kernel_rfl) rfl
          ·skip
           repeat' first|((first|(with_reducible apply XBr.tt)|(with_reducible apply XBr.ff)|(with_reducible refine XInt.i64 (by omega) (by omega) ?_));conv=>whnf)|(with_reducible apply XAnd.mk)|((first|(with_reducible apply Chk.go)|(with_reducible apply ChkA.go));conv=>whnf)|(exact zg.mk rfl rfl)|(with_reducible exact trivial)|(exact zg.mk (congrArg (AV.int .i64) e1) rfl)|(((refine za.of hof2 1 rfl rfl rfl ?_);rw [hqq]);conv=>whnf)|(exact zg.mk (congrArg AV.bool eA) rfl)|(exact zg.mk (congrArg AV.bool eB) rfl)|(exact zg.mk (congrArg (AV.int .i64) e2) rfl)|(exact zg.mk (congrArg (AV.int .i64) e3) rfl)|(exact zg.mk (congrArg (AV.int .i64) e4) rfl)|fail
          ·skip
           repeat' first|((first|(with_reducible apply XBr.tt)|(with_reducible apply XBr.ff)|(with_reducible refine XInt.i64 (by omega) (by omega) ?_));conv=>whnf)|(with_reducible apply XAnd.mk)|((first|(with_reducible apply Chk.go)|(with_reducible apply ChkF.go)|(with_reducible apply ChkB.go));conv=>whnf)|(exact zg.mk rfl rfl)|(with_reducible exact trivial)|(exact zg.mk (congrArg AV.bool eB) rfl)|(exact zg.mk (congrArg (AV.int .i64) e2) rfl)|(exact zg.mk (congrArg (AV.int .i64) e3) rfl)|(exact zg.mk (congrArg (AV.int .i64) e4) rfl)|fail
          ·conv=>whnf
           repeat' first|((with_reducible apply XBr.bne) <;> (intro h;first|(exfalso;omega)|(conv=>whnf)))|fail
           ·have hp : yp d q.1 n left (b,m') c = (c,qq.2):=by simp only [yp,hqq];rw [if_pos ⟨hA,.inr (by omega)⟩]
            rw [hp];exact ⟨rfl,rfl⟩
           ·have hp : yp d q.1 n left (b,m') c = (b,qq.2):=by simp only [yp,hqq];rw [if_neg (by omega)]
            rw [hp];exact ⟨rfl,rfl⟩
        ·have eA : ((qq.1 : Int) == (q.1 : Int) - (n : Int) - 1) = false:=by rw [beq_eq_false_iff_ne];omega
         have hp : yp d q.1 n left (b,m') c = (b,qq.2):=by simp only [yp,hqq];rw [if_neg (by omega)]
         apply Walk.drawX zb zk [] [5] (hsV _ [id,fun H=>H.set 1 (.map (esA qq.2))])
          [_,_,_,_,natA (diff left c),natA qq.1,_,_,_,_,.bool false,_,_,_,_,_,_,_,_,_,_,_,_,_] (by kernel_rfl) rfl
         ·skip
          repeat' first|((first|(with_reducible apply XBr.ff)|(with_reducible refine XInt.i64 (by omega) (by omega) ?_));conv=>whnf)|(with_reducible apply XAnd.mk)|((first|(with_reducible apply Chk.go)|(with_reducible apply ChkA.go));conv=>whnf)|(exact zg.mk rfl rfl)|(with_reducible exact trivial)|(exact zg.mk (congrArg (AV.int .i64) e1) rfl)|(((refine za.of hof2 1 rfl rfl rfl ?_);rw [hqq]);conv=>whnf)|(exact zg.mk (congrArg AV.bool eA) rfl)|fail
         ·skip
          repeat' first|((first|(with_reducible apply XBr.ff)|(with_reducible refine XInt.i64 (by omega) (by omega) ?_));conv=>whnf)|(with_reducible apply XAnd.mk)|((first|(with_reducible apply Chk.go)|(with_reducible apply ChkF.go)|(with_reducible apply ChkB.go));conv=>whnf)|(exact zg.mk rfl rfl)|(with_reducible exact trivial)|fail
         ·rw [hp]
          conv=>whnf
          repeat' first|((with_reducible apply XBr.ff);conv=>whnf)|fail
          exact ⟨rfl,rfl⟩
       ·refine ⟨?_,by simp only [yp,hqq];exact q2,fun c hc=>g2 c (List.mem_cons_of_mem _ hc)⟩
        simp only [yp];split
        ·exact gc
        ·exact g0
      ·have hbest:=zcQ d q.1 n left m0 k2
       have hbd : (yD d left).foldl (yp d q.1 n left) (0,m0) = jP d q.1 n left m0:=rfl
       rw [hbd]
       have hst : yq d q.1 (n + 1) = ⟨diff left (jP d q.1 n left m0).1,(jP d q.1 n left m0).2,qh n out0 (bits (jP d q.1 n left m0).1)⟩:=hnext
       generalize jP d q.1 n left m0 = bb at hbest hst
       obtain ⟨b,m2⟩:=bb
       dsimp only at hbest hst ⊢
       have hb2:=hbest.2.le
       conv=>whnf
       skip
       refine za.ret (wK b (by omega)) ?_
       conv=>whnf
       have hbb : ∀ x ∈ bits b,0 <= x /\ x < (d.l.sacks.length : Int):=fun x hx=>by
        have hp2 : b < 2 ^ d.l.sacks.length:=by have:=Nat.two_pow_pos d.l.sacks.length;show b < _;unfold allD at k1;omega
        have:=ki 62 0 b d.l.sacks.length hp2 x hx;omega
       have hbl:=yw b
       refine Walk.loop zb [] (fun j : Nat=>j <= (bits b).length) (fun j=>[(5,.pim (zy d)),(7,.ptr 4 0),(8,.ptr 5 0),(9,.gr 6 l.sacks.length),(10,.ptr 7 0),(11,.ptr 8 0),(12,.ptr 9 0),(40,natA q.1),(41,natA n),(77,slA (bits b)),(78,natA (bits b).length),(79,natA j)])
        (fun j=>[.cells [ofC d 1],.map (esA m2),.cells [.mp 1],.cells [ofC d 1],.cells [ofC d 1],.cells [natA q.1],.grow 3 false (nats (qh n out0 ((bits b).take j))),.cells [natA left],.cells [natA n],.cells [natA b],.raw (.deferred (some [])),.dead])
        (fun j=>(bits b).length - j) 0 (by omega) rfl ⟨rfl,rfl,rfl,rfl,rfl,rfl,rfl,rfl,rfl,rfl,by simp only [ints,List.length_map];rfl,rfl,trivial⟩ ?_
       intro j hj
       have hfl:=vD n ((bits b).take j) out0
       conv=>whnf
       repeat' first|((with_reducible apply XBr.dec) <;> (intro h;first|(exfalso;omega)|((try simp only [List.length_map] at h);first|(exfalso;omega)|(conv=>whnf))))|((first|(with_reducible refine XInt.i64 (by omega) (by omega) ?_)|((with_reducible refine XIx.nat ?_ ?_ ?_);omega;(intro _;rfl)));conv=>whnf)|fail
       ·rename_i hjl
        have hmem:=zu (xs:=bits b) (i:=j) (d:=default) (by omega)
        have hv:=hbb _ hmem
        refine zj.mk ⟨by rw [List.length_map,hfl,k3,hdn],rfl,by omega,by omega⟩ ?_
        conv=>whnf
        refine XPut.map n rfl (by rw [hfl,k3,hdn]) (by omega) ?_
        conv=>whnf
        repeat' first|((with_reducible refine XInt.i64 (by omega) (by omega) ?_);conv=>whnf)|fail
        refine zh.go (j + 1) (by omega) (by omega) ?_ ⟨rfl,rfl,rfl,rfl,rfl,rfl,rfl,rfl,rfl,rfl,rfl,rfl,trivial⟩
        rw [zS (by omega)]
        unfold qh
        rw [List.foldl_append];rfl
       ·rename_i hjl
        have hje : j = (bits b).length:=by omega
        subst hje
        refine qK.go (n + 1) [.cells [natA n],.cells [natA b],.raw (.deferred (some [])),.dead] (by omega) (by omega) ?_ ⟨rfl,rfl,rfl,rfl,rfl,rfl,rfl,trivial⟩ (Nat.le_refl _) ?_ ?_ ?_ ?_
        ·rw [hst,List.take_length]
         have e1 : iandn .i64 (left : Int) (b : Int) = ((diff left b : Nat) : Int):=ke (by omega) (by omega)
         simp only [List.cons_append,List.nil_append,natA,e1]
        ·intro x hx
         simp only [List.mem_cons,List.not_mem_nil,or_false] at hx
         rcases hx with rfl | rfl | rfl | rfl | rfl | rfl | rfl | rfl <;> first|exact fO _|exact lowN _ | rfl|(simp only [Blk.low,ofC,lowL,AV.low,yn,List.length_cons,List.length_nil];rfl)
        ·intro p hp
         simp only [List.mem_cons,List.not_mem_nil,or_false] at hp
         rcases hp with rfl | rfl | rfl | rfl | rfl | rfl | rfl <;> first | rfl|exact yn _
        ·simp
        ·intro i hi;simp at hi;subst hi;exact ⟨Nat.le_of_ble_eq_true rfl,rfl⟩
     ·have hne : n = q.1:=by omega
      subst hne
      rw [hfin,hs]
      apply Walk.drawX zb zk [] [] (hsK _) [_,_,_,_,_] (by kernel_rfl) rfl
      ·skip
       repeat' first|(with_reducible apply XAnd.mk)|((first|(with_reducible apply Chk.go)|(with_reducible apply ChkA.go));conv=>whnf)|(exact zg.mk rfl rfl)|(with_reducible exact trivial)|fail
      ·skip
       repeat' first|(with_reducible apply XAnd.mk)|((first|(with_reducible apply ChkF.go)|(with_reducible apply ChkB.go));conv=>whnf)|(with_reducible exact trivial)|fail
      ·conv=>whnf
       skip
       exact ⟨Froz.tup (.cons (Froz.grow rfl (by simp only [nats,List.length_map,k3,hdn]) (lowN _)) (.cons (Froz.low rfl) (.cons (Froz.low rfl) .nil)))⟩
 ·rw [if_neg hc,if_neg hc]
  conv=>whnf
  repeat' first|((with_reducible apply XBr.bne) <;> (intro h;first|(exfalso;omega)|(conv=>whnf)))|fail
  exact ⟨Froz.low rfl⟩
end GA
end
section
namespace GA
open Go Go.RowKit Go.Proofs
structure Pr where
 unit : Int
 nl : Bool
 ps : List Int
def pcC (p : Pr) : List AV:=[.int .i64 p.unit,.sl p.nl (ints p.ps)]
def pcA (p : Pr) : AV:=.agg (pcC p)
theorem lowPc {n : Nat} (p : Pr) : lowL n (pcC p) = true:=by simp only [pcC,lowL,AV.low,lowI];rfl
theorem pcL {n : Nat} (p : Pr) : (pcA p).low n = true:=lowPc p
def zD (l : Ld) (p : Pr) : Int:=if p.ps.length ≠ l.sacks.length then 2 else if (inB p.unit 1 100 && p.ps.all fun n=>inB n 0 100) = true then 0 else 3
theorem priced1_c (x : Int) : Comp Tryz.prog 115 [.int .i64 x] (.bool (inB x 0 100)):=by
 refine Comp.body (T:=tab) (res:=[.tmp 2]) zb [] Tryz.func115 rfl (by kernel_rfl) Tryz.ntmps115 rfl (by simp only [List.length_cons,List.length_nil];decide) (by rfl) ?_;conv=>whnf
 refine za.ret (in_c _ _ _) ?_
 conv=>whnf
 exact XOut.bool rfl
def zcC (l : Ld) (p : Pr) : AV:=if zi l = 0 then if zD l p = 0 then .tup [.pim (zy (zf l)),.int .i64 0] else .tup [.nilp,.int .i64 (zD l p)] else .tup [.nilp,.int .i64 (zi l)]
structure LdW (l : Ld) : Prop where
 w : l.nla = true -> l.apart = []
 h1 : l.sacks.length <= 100000
 h2 : l.apart.length <= 1000
 h3 : l.wth.length <= 1000
theorem priced_c (l : Ld) (p : Pr) (o : LdW l) (hp : p.ps.length <= 100000) : Comp Tryz.prog 101 [ldA l,pcA p] (zcC l p):=by
 refine Comp.body (T:=tab) (res:=[.tmp 4,.tmp 5]) zb [] Tryz.func101 rfl (by kernel_rfl) Tryz.ntmps101 rfl (by simp only [List.length_cons,List.length_nil];decide) (by simp only [lowL,ldL,pcL];rfl) ?_;conv=>whnf
 refine za.ret (k9 l o.w o.h1 o.h2 o.h3) ?_
 unfold wY zcC
 by_cases hc : zi l = 0
 ·rw [if_pos hc,if_pos hc]
  generalize zf l = d
  conv=>whnf
  repeat' first|((first|(with_reducible apply XBr.tt)|(with_reducible apply XBr.ff));conv=>whnf)|(with_reducible apply XBr.not)|((with_reducible apply XBr.bne) <;> (intro h;first|(exfalso;omega)|(conv=>whnf)))|(refine za.ret (in_c _ _ _) ?_;conv=>whnf)|(refine za.ret (wg p.nl p.ps 115 [] (fun n=>inB n 0 100) rfl hp fun x _=>priced1_c x) ?_;conv=>whnf)|((with_reducible apply XBr.mk') <;> (intro h;conv=>whnf))|fail
  ·have he : zD l p = 2:=by unfold zD;rw [if_pos (by rename_i h;simp only [List.length_map] at h;omega)]
   rw [he];exact ⟨Froz.low rfl⟩
  ·have he : zD l p = 0:=by unfold zD;rw [if_neg (by simp only [List.length_map] at *;omega),if_pos (by simp [*])]
   rw [he];exact ⟨Froz.low (by show lowL 0 _ = true;simp only [lowL,AV.low,yn];rfl)⟩
  all_goals (have he : zD l p = 3:=by (unfold zD;rw [if_neg (by simp only [List.length_map] at *;omega),if_neg (by simp [*])]))
  all_goals (rw [he];exact ⟨Froz.low rfl⟩)
 ·rw [if_neg hc,if_neg hc]
  conv=>whnf
  repeat' first|((with_reducible apply XBr.bne) <;> (intro h;first|(exfalso;omega)|(conv=>whnf)))|fail
  exact ⟨Froz.low rfl⟩
def yJ (p : Pr) (is : List Int) : Int:=(is.map fun i=>p.ps.getD i.toNat 0).sum
def yR (d : Dk) (p : Pr) : Bool:=(List.range (2 ^ d.l.sacks.length)).all fun s=>!(decide (p.unit < yJ p (bits s)) && zn d s)
def fairR (l : Ld) (p : Pr) : AV:=if zi l = 0 then if zD l p = 0 then .tup [.bool (yR (zf l) p),.int .i64 0] else .tup [.bool false,.int .i64 (zD l p)] else .tup [.bool false,.int .i64 (zi l)]
theorem wa {l : Ld} {p : Pr} (h : zD l p = 0) : p.ps.length = l.sacks.length /\ 1 <= p.unit /\ p.unit <= 100 /\ ∀ x ∈ p.ps,0 <= x /\ x <= 100:=by
 unfold zD at h
 split at h
 ·cases h
 rename_i h1
 split at h
 ·rename_i h2
  simp only [Bool.and_eq_true,zL,List.all_eq_true] at h2
  exact ⟨by omega,h2.1.1,h2.1.2,h2.2⟩
 ·cases h
theorem gv {p : Pr} (hp : ∀ x ∈ p.ps,0 <= x /\ x <= 100) : ∀ is : List Int,0 <= yJ p is /\ yJ p is <= 100 * is.length
 | []=>by simp [yJ]
 | i :: is=>by
   have ih:=gv hp is
   have : 0 <= p.ps.getD i.toNat 0 /\ p.ps.getD i.toNat 0 <= 100:=by
    rw [List.getD_eq_getElem?_getD]
    cases h : p.ps[i.toNat]? with
    | none=>simp
    | some x=>exact hp x (List.mem_of_getElem? h)
   simp only [yJ,List.map_cons,List.sum_cons,List.length_cons] at ih ⊢
   omega
theorem g9 (p : Pr) {is : List Int} {j : Nat} (h : j < is.length) : yJ p (is.take (j + 1)) = yJ p (is.take j) + p.ps.getD (is.getD j default).toNat 0:=by
 rw [zS h];simp [yJ,List.sum_append]
theorem fair_c (l : Ld) (p : Pr) (o : LdW l) (hp : p.ps.length <= 100000) : Comp Tryz.prog 61 [ldA l,pcA p] (fairR l p):=by
 refine Comp.body (T:=tab) (res:=[.tmp 4,.tmp 5]) zb [] Tryz.func61 rfl (by kernel_rfl) Tryz.ntmps61 rfl (by simp only [List.length_cons,List.length_nil];decide) (by simp only [lowL,ldL,pcL];rfl) ?_;conv=>whnf
 refine za.ret (priced_c l p o hp) ?_
 unfold zcC fairR
 by_cases hc : zi l = 0
 ·rw [if_pos hc,if_pos hc]
  by_cases he : zD l p = 0
  ·rw [if_pos he,if_pos he]
   have ok:=(zB l).1 hc
   have dok:=yG ok
   obtain ⟨g1,g2,g3,g4⟩:=wa he
   have hdn : (zf l).l.sacks.length = l.sacks.length:=rfl
   generalize zf l = d at dok hdn
   have hpw:=pow9 (n:=d.l.sacks.length) (by have:=ok.n;omega)
   conv=>whnf
   repeat' first|((with_reducible apply XBr.bne) <;> (intro h;first|(exfalso;omega)|(conv=>whnf)))|fail
   refine za.ret (fb d (by rw [hdn];exact ok.n)) ?_
   conv=>whnf
   repeat' first|((with_reducible refine XInt.i64 (by omega) (by omega) ?_);conv=>whnf)|fail
   refine Walk.loop zb [] (fun s : Nat=>s <= 2 ^ d.l.sacks.length /\ ∀ k,k < s -> (decide (p.unit < yJ p (bits k)) && zn d k) = false) (fun s=>[(3,.pim (pcC p)),(6,.pim (zy d)),(23,natA (2 ^ d.l.sacks.length)),(24,natA s)])
    (fun _=>[]) (fun s=>2 ^ d.l.sacks.length - s) 0 ⟨by omega,fun k hk=>by omega⟩ rfl ⟨rfl,rfl,congrArg (fun n=>some (AV.int .i64 n)) (by omega),rfl,trivial⟩ ?_
   rintro s ⟨h1,h2⟩
   conv=>whnf
   repeat' first|((with_reducible apply XBr.dec) <;> (intro h;first|(exfalso;omega)|((try simp only [List.length_map] at h);first|(exfalso;omega)|(conv=>whnf))))|fail
   ·refine za.ret (wK s (by omega)) ?_
    conv=>whnf
    have hbb : ∀ x ∈ bits s,0 <= x /\ x < (p.ps.length : Int):=fun x hx=>by
     have:=ki 62 0 s d.l.sacks.length (by omega) x hx;omega
    have hbl:=yw s
    refine Walk.loop zb [] (fun j : Nat=>j <= (bits s).length) (fun j=>[(3,.pim (pcC p)),(6,.pim (zy d)),(23,natA (2 ^ d.l.sacks.length)),(24,natA s),(8,natA s),(9,.int .i64 (yJ p ((bits s).take j))),(28,slA (bits s)),(29,natA (bits s).length),(30,natA j)])
     (fun _=>[]) (fun j=>(bits s).length - j) 0 (by omega) rfl ⟨rfl,rfl,rfl,rfl,rfl,rfl,rfl,by simp only [ints,List.length_map];rfl,rfl,trivial⟩ ?_
    intro j hj
    conv=>whnf
    have hb:=gv g4 ((bits s).take j)
    have hl : ((bits s).take j).length <= 62:=by rw [List.length_take];omega
    repeat' first|((first|(with_reducible apply XBr.tt)|(with_reducible apply XBr.ff));conv=>whnf)|((with_reducible apply XBr.dec) <;> (intro h;first|(exfalso;omega)|((try simp only [List.length_map] at h);first|(exfalso;omega)|(conv=>whnf))))|((first|(with_reducible refine XInt.i64 (by omega) (by omega) ?_)|((with_reducible refine XIx.nat ?_ ?_ ?_);omega;(intro _;rfl)));conv=>whnf)|fail
    ·have hv:=hbb _ (zu (xs:=bits s) (i:=j) (d:=default) (by omega))
     have hv2:=g4 _ (zu (xs:=p.ps) (i:=((bits s).getD j default).toNat) (d:=0) (by omega))
     refine XIx.map (by omega) (by omega) (fun _=>rfl) ?_
     conv=>whnf
     skip
     refine XInt.i64 (by show _ <= _ + p.ps.getD _ 0;omega) (by show _ + p.ps.getD _ 0 <= _;omega) ?_
     conv=>whnf
     repeat' first|((with_reducible refine XInt.i64 (by omega) (by omega) ?_);conv=>whnf)|fail
     refine zh.go (j + 1) (by omega) (by omega) rfl ⟨rfl,rfl,rfl,rfl,rfl,?_,rfl,rfl,rfl,trivial⟩
     rw [g9 p (by omega)];rfl
    ·have hje : j = (bits s).length:=by omega
     subst hje
     have hu:=h
     rw [List.take_length] at hu
     refine za.ret (vJ d dok s (by omega)) ?_
     conv=>whnf
     repeat' first|((first|(with_reducible apply XBr.tt)|(with_reducible refine XInt.i64 (by omega) (by omega) ?_));conv=>whnf)|((with_reducible apply XBr.mk') <;> (intro h;conv=>whnf))|fail
     ·skip
      have hf : yR d p = false:=by
       unfold yR;rw [List.all_eq_false]
       exact ⟨s,List.mem_range.2 (by omega),by rw [h,decide_eq_true hu];simp⟩
      exact ⟨by rw [hf];exact Froz.low rfl⟩
     ·skip
      refine zh.go (s + 1) ⟨by omega,fun k hk=>?_⟩ (by omega) rfl ⟨rfl,rfl,rfl,rfl,trivial⟩
      rcases Nat.lt_or_ge k s with h5 | h5
      ·exact h2 k h5
      ·rw [show k = s by omega,h,Bool.and_false]
    ·have hje : j = (bits s).length:=by omega
     subst hje
     rw [List.take_length] at h
     refine zh.go (s + 1) ⟨by omega,fun k hk=>?_⟩ (by omega) rfl ⟨rfl,rfl,rfl,rfl,trivial⟩
     rcases Nat.lt_or_ge k s with h5 | h5
     ·exact h2 k h5
     ·rw [show k = s by omega,decide_eq_false h,Bool.false_and]
   ·refine ⟨?_⟩
    have : yR d p = true:=by
     unfold yR;rw [List.all_eq_true]
     intro k hk;rw [List.mem_range] at hk
     rw [h2 k (by omega)];rfl
    rw [this];exact Froz.low rfl
  ·rw [if_neg he,if_neg he]
   conv=>whnf
   repeat' first|((with_reducible apply XBr.bne) <;> (intro h;first|(exfalso;omega)|(conv=>whnf)))|fail
   exact ⟨Froz.low rfl⟩
 ·rw [if_neg hc,if_neg hc]
  conv=>whnf
  repeat' first|((with_reducible apply XBr.bne) <;> (intro h;first|(exfalso;omega)|(conv=>whnf)))|fail
  exact ⟨Froz.low rfl⟩
def vH (l : Ld) (p : Pr) : AV:=if zi l = 0 then if zD l p = 0 then if yR (zf l) p then .tup [.int .i64 ((p.ps.sum + p.unit - 1) / p.unit),.int .i64 0] else .tup [.int .i64 0,.int .i64 8] else .tup [.int .i64 0,.int .i64 (zD l p)] else .tup [.int .i64 0,.int .i64 (zi l)]
theorem psum_bd : ∀ (ps : List Int),(∀ x ∈ ps,0 <= x /\ x <= 100) -> 0 <= ps.sum /\ ps.sum <= 100 * ps.length
 | [],_=>by simp
 | x :: ps,h=>by
   have ih:=psum_bd ps (fun y hy=>h y (List.mem_cons_of_mem _ hy))
   have:=h x List.mem_cons_self
   simp only [List.sum_cons,List.length_cons];omega
theorem zei (l : Ld) (p : Pr) (o : LdW l) (hp : p.ps.length <= 100000) : Comp Tryz.prog 62 [ldA l,pcA p] (vH l p):=by
 refine Comp.body (T:=tab) (res:=[.tmp 4,.tmp 5]) zb [] Tryz.func62 rfl (by kernel_rfl) Tryz.ntmps62 rfl (by simp only [List.length_cons,List.length_nil];decide) (by simp only [lowL,ldL,pcL];rfl) ?_;conv=>whnf
 refine za.ret (fair_c l p o hp) ?_
 unfold fairR vH
 by_cases hc : zi l = 0
 ·rw [if_pos hc,if_pos hc]
  by_cases he : zD l p = 0
  ·rw [if_pos he,if_pos he]
   obtain ⟨g1,g2,g3,g4⟩:=wa he
   have ok:=(zB l).1 hc
   have hn:=ok.n
   generalize yR (zf l) p = f
   conv=>whnf
   repeat' first|(with_reducible apply XBr.not)|((with_reducible apply XBr.bne) <;> (intro h;first|(exfalso;omega)|(conv=>whnf)))|((with_reducible apply XBr.mk') <;> (intro h;conv=>whnf))|fail
   ·refine Walk.loop zb [] (fun j : Nat=>j <= p.ps.length) (fun j=>[(3,.pim (pcC p)),(23,.sl p.nl (ints p.ps)),(24,natA p.ps.length),(8,.int .i64 (p.ps.take j).sum),(25,natA j)])
     (fun _=>[]) (fun j=>p.ps.length - j) 0 (by omega) rfl ⟨rfl,rfl,by simp only [ints,List.length_map];rfl,rfl,rfl,trivial⟩ ?_
    intro j hj
    have hb:=psum_bd (p.ps.take j) (fun x hx=>g4 x (List.mem_of_mem_take hx))
    have hl : (p.ps.take j).length <= 9:=by rw [List.length_take];omega
    conv=>whnf
    repeat' first|((with_reducible apply XBr.dec) <;> (intro h;first|(exfalso;omega)|((try simp only [List.length_map] at h);first|(exfalso;omega)|(conv=>whnf))))|((with_reducible refine XInt.i64 (by omega) (by omega) ?_);conv=>whnf)|((with_reducible refine zj.mk ?_ ?_);(first | omega | rfl | decide|exact ⟨rfl,by decide,rfl⟩|exact zz _|exact zp _|exact zq _|(unfold Room;constructor <;> ((try simp) <;> omega))|exact ⟨rfl,by simp only [List.length_map],by unfold Room;constructor <;> ((try simp) <;> omega)⟩|exact ⟨by omega,by omega,by unfold Room;constructor <;> ((try simp) <;> omega)⟩);conv=>whnf)|(((with_reducible refine XIx.nat ?_ ?_ ?_);omega;(intro _;rfl));conv=>whnf)|fail
    ·have hv:=g4 _ (zu (xs:=p.ps) (i:=j) (d:=default) (by omega))
     refine XInt.i64 (by omega) (by omega) ?_
     conv=>whnf
     repeat' first|((with_reducible refine XInt.i64 (by omega) (by omega) ?_);conv=>whnf)|fail
     refine zh.go (j + 1) (by omega) (by omega) rfl ⟨rfl,rfl,rfl,?_,rfl,trivial⟩
     rw [zS (by omega),List.sum_append];simp;rfl
    ·have hje : j = p.ps.length:=by omega
     subst hje
     rw [List.take_length] at hb hl ⊢
     have ht : (p.ps.sum + p.unit - 1).tdiv p.unit = (p.ps.sum + p.unit - 1) / p.unit:=Int.tdiv_eq_ediv_of_nonneg (by omega)
     have h1 : 0 <= (p.ps.sum + p.unit - 1) / p.unit:=Int.ediv_nonneg (by omega) (by omega)
     have h2 : (p.ps.sum + p.unit - 1) / p.unit <= p.ps.sum + p.unit - 1:=Int.ediv_le_self _ (by omega)
     rw [ht]
     refine XInt.i64 (by omega) (by omega) ?_
     conv=>whnf
     rename_i hf
     exact ⟨by rw [hf];exact Froz.low rfl⟩
   ·exact ⟨by rw [h];exact Froz.low rfl⟩
  ·rw [if_neg he,if_neg he]
   conv=>whnf
   repeat' first|((with_reducible apply XBr.bne) <;> (intro h;first|(exfalso;omega)|(conv=>whnf)))|fail
   exact ⟨Froz.low rfl⟩
 ·rw [if_neg hc,if_neg hc]
  conv=>whnf
  repeat' first|((with_reducible apply XBr.bne) <;> (intro h;first|(exfalso;omega)|(conv=>whnf)))|fail
  exact ⟨Froz.low rfl⟩
end GA
end
section
namespace GA
open Go Go.RowKit Go.Proofs
def qA (q : Int × Int) : AV:=.agg [.int .i64 q.1,.int .i64 q.2]
def ky (q r : Int × Int) : Bool:=decide (r.1 * q.2 < q.1 * r.2)
theorem jj {a b A B : Int} (h1 : 0 <= a) (h2 : a <= A) (h3 : 0 <= b) (h4 : b <= B) : 0 <= a * b /\ a * b <= A * B:=
 ⟨Int.mul_nonneg h1 h3,Int.mul_le_mul h2 h4 h3 (by omega)⟩
theorem zcP (q r : Int × Int) (h1 : 0 <= q.1 /\ q.1 <= 1000000) (h2 : 0 <= q.2 /\ q.2 <= 1000000) (h3 : 0 <= r.1 /\ r.1 <= 1000000) (h4 : 0 <= r.2 /\ r.2 <= 1000000) : Comp Tryz.prog 35 [qA q,qA r] (.bool (ky q r)):=by
 refine Comp.body (T:=tab) (res:=[.tmp 4]) zb [] Tryz.func35 rfl (by kernel_rfl) Tryz.ntmps35 rfl (by simp only [List.length_cons,List.length_nil];decide) (by rfl) ?_;conv=>whnf
 have a:=jj h1.1 h1.2 h4.1 h4.2
 have b:=jj h3.1 h3.2 h2.1 h2.2
 repeat' first|((with_reducible refine XInt.i64 (by omega) (by omega) ?_);conv=>whnf)|fail
 exact XOut.bool rfl
def zM (xs : List Int) : Int:=xs.foldl (fun n m=>max n m) 0
theorem zeK (nl : Bool) (xs : List Int) (hx : xs.length <= 100000) : Comp Tryz.prog 34 [.sl nl (ints xs)] (.int .i64 (zM xs)):=by
 refine Comp.body (T:=tab) (res:=[.tmp 2]) zb [] Tryz.func34 rfl (by kernel_rfl) Tryz.ntmps34 rfl (by simp only [List.length_cons,List.length_nil];decide) (by simp only [lowL,AV.low,lowI];rfl) ?_;conv=>whnf
 refine Walk.loop zb [] (fun j : Nat=>j <= xs.length) (fun j=>[(6,.sl nl (ints xs)),(7,natA xs.length),(3,.int .i64 (zM (xs.take j))),(8,natA j)])
  (fun _=>[]) (fun j=>xs.length - j) 0 (by omega) rfl ⟨rfl,by simp only [ints,List.length_map];rfl,rfl,rfl,trivial⟩ ?_
 intro j hj
 conv=>whnf
 repeat' first|((with_reducible apply XBr.dec) <;> (intro h;first|(exfalso;omega)|((try simp only [List.length_map] at h);first|(exfalso;omega)|(conv=>whnf))))|((first|(with_reducible refine XInt.i64 (by omega) (by omega) ?_)|((with_reducible refine XIx.nat ?_ ?_ ?_);omega;(intro _;rfl)));conv=>whnf)|fail
 ·refine zh.go (j + 1) (by omega) (by omega) rfl ⟨rfl,rfl,?_,rfl,trivial⟩
  rw [zS (by omega)];unfold zM;rw [List.foldl_append];rfl
 ·have hje : j = xs.length:=by omega
  subst hje
  rw [List.take_length];exact XOut.int rfl
def zW (l : Ld) (out : List Int) (s : Sk) : List Int:=out.set s.o.toNat (out.getD s.o.toNat 0 + zO l s)
def zG (l : Ld) : List Int:=l.sacks.foldl (zW l) (List.replicate 6 0)
def jX (n : Nat) (out : List Int) : Prop:=out.length = 6 /\ ∀ i,0 <= out.getD i 0 /\ out.getD i 0 <= 100 * n
theorem zaV {α : Type} (xs : List α) (i j : Nat) (v d : α) : (xs.set i v).getD j d = if i = j /\ i < xs.length then v else xs.getD j d:=by
 simp only [List.getD_eq_getElem?_getD,List.getElem?_set]
 by_cases h : i = j
 ·subst h
  by_cases h2 : i < xs.length
  ·simp [h2]
  ·simp [h2]
 ·simp [h]
theorem zed {l : Ld} (o : LdOk l) {n : Nat} {out : List Int} {s : Sk} (hs : s ∈ l.sacks) (h : jX n out) : jX (n + 1) (zW l out s):=by
 obtain ⟨h1,h2⟩:=h
 refine ⟨by simp [zW,h1],fun i=>?_⟩
 obtain ⟨e1,e2,e3⟩:=vS o hs
 have a:=h2 i
 have b:=h2 s.o.toNat
 unfold zW;rw [zaV]
 split
 ·omega
 ·omega
theorem wR {l : Ld} (o : LdOk l) : ∀ n,n <= l.sacks.length -> jX n ((l.sacks.take n).foldl (zW l) (List.replicate 6 0))
 | 0,_=>⟨rfl,fun i=>by
   show 0 <= (List.replicate 6 (0 : Int)).getD i 0 /\ (List.replicate 6 (0 : Int)).getD i 0 <= _
   rw [List.getD_eq_getElem?_getD,List.getElem?_replicate];split <;> simp⟩
 | n + 1,h=>by
   rw [zS (by omega),List.foldl_append]
   exact zed o (zu (by omega)) (wR o n (by omega))
theorem yA {l : Ld} (o : LdOk l) : jX 9 (zG l):=by
 have h:=wR o l.sacks.length (Nat.le_refl _)
 rw [List.take_length] at h
 have:=o.n
 exact ⟨h.1,fun i=>by have:=h.2 i;unfold zG;omega⟩
theorem fK (l : Ld) (o : LdOk l) : Comp Tryz.prog 33 [ldA l] (.sl false (ints (zG l))):=by
 refine Comp.body' (T:=tab) (res:=[.tmp 2]) zb [] Tryz.func33 rfl (by kernel_rfl) Tryz.ntmps33 rfl (by simp only [List.length_cons,List.length_nil];decide) (by simp only [lowL,ldL];rfl) ?_;conv=>whnf
 repeat' first|((with_reducible refine zj.mk ?_ ?_);(first | omega | rfl | decide|exact ⟨rfl,by decide,rfl⟩|exact zz _|exact zp _|exact zq _|(unfold Room;constructor <;> ((try simp) <;> omega))|exact ⟨rfl,by simp only [List.length_map],by unfold Room;constructor <;> ((try simp) <;> omega)⟩|exact ⟨by omega,by omega,by unfold Room;constructor <;> ((try simp) <;> omega)⟩);conv=>whnf)|fail
 refine Walk.loopG zb [] (fun j : Nat=>j <= l.sacks.length) (fun j=>[(1,.pim (ldC l)),(3,.gr 0 6),(8,.sl l.nls (l.sacks.map skA)),(9,natA l.sacks.length),(10,natA j)])
  (fun j=>[.grow 3 false (ints ((l.sacks.take j).foldl (zW l) (List.replicate 6 0)))]) (fun j=>l.sacks.length - j) 0 (by omega) rfl ⟨rfl,rfl,rfl,by simp only [List.length_map];rfl,rfl,trivial⟩ ?_ ?_ ?_
 ·intro j _
  constructor
  ·intro x hx;simp at hx;subst hx;exact lowI _
  ·intro p hp;simp at hp;rcases hp with rfl | rfl | rfl | rfl | rfl <;> first|exact jo _|exact yU _ | rfl
 ·intro j _;simp
 intro j hj
 have pk:=wR o j hj
 have hn:=o.n
 have hnx : j < l.sacks.length -> (l.sacks.take (j + 1)).foldl (zW l) (List.replicate 6 0) = zW l ((l.sacks.take j).foldl (zW l) (List.replicate 6 0)) (l.sacks.getD j default):=fun h=>by
  rw [zS h,List.foldl_append];rfl
 have hfin : j = l.sacks.length -> (l.sacks.take j).foldl (zW l) (List.replicate 6 0) = zG l:=fun h=>by rw [h,List.take_length];rfl
 generalize hog : (l.sacks.take j).foldl (zW l) (List.replicate 6 0) = out at pk hnx hfin
 conv=>whnf
 repeat' first|((with_reducible apply XBr.dec) <;> (intro h;first|(exfalso;omega)|((try simp only [List.length_map] at h);first|(exfalso;omega)|(conv=>whnf))))|(((with_reducible refine XIx.nat ?_ ?_ ?_);omega;(intro _;rfl));conv=>whnf)|fail
 ·have hnx:=hnx (by omega)
  have hsm:=zu (xs:=l.sacks) (i:=j) (d:=default) (by omega)
  generalize l.sacks.getD j default = s at hsm hnx
  have hok:=o.sk s hsm
  have hwl:=vS o hsm
  have hs1:=o.s1
  have hs2:=o.s2
  have pv:=pk.2 s.o.toNat
  apply Walk.drawX zb zk [] [10] (hsV _ [id,fun H=>H.set 0 (.grow 3 false (ints (zW l out s)))]) [_,_,_,_,_,_,_,_,_,_,_] (by kernel_rfl) rfl
  ·skip
   repeat' first|(with_reducible apply XAnd.mk)|((first|(with_reducible apply Chk.go)|(with_reducible apply ChkA.go));conv=>whnf)|(exact zg.mk rfl rfl)|(with_reducible exact trivial)|((first|(refine zj.mk ⟨by rw [List.length_map,pk.1],rfl,by omega,by omega⟩ ?_)|(refine XGet.map (by rw [pk.1]) (by omega) ?_)|(refine za.ret (zaF l s (by omega) (by omega) (by omega) (by omega)) ?_)|(refine XInt.i64 (by show _ <= out.getD _ 0 + _;omega) (by show out.getD _ 0 + _ <= _;omega) ?_)|(refine XPut.map (out.getD s.o.toNat 0 + zO l s) rfl (by rw [pk.1]) (by omega) ?_));conv=>whnf)|fail
  ·skip
   repeat' first|(with_reducible apply XAnd.mk)|((first|(with_reducible apply ChkF.go)|(with_reducible apply ChkB.go));conv=>whnf)|(with_reducible exact trivial)|fail
  ·conv=>whnf
   repeat' first|((with_reducible refine XInt.i64 (by omega) (by omega) ?_);conv=>whnf)|fail
   refine zw.go (j + 1) [.cells [.int .i64 s.m,.int .i64 s.o]] (by omega) (by omega) ?_ ⟨rfl,rfl,rfl,rfl,rfl,trivial⟩
   rw [hnx];rfl
 ·rw [hfin (by omega)]
  exact ⟨Froz.grow rfl (by rw [List.length_map];exact (yA o).1) (lowI _)⟩
end GA
end
section
namespace GA
open Go Go.RowKit Go.ChangeShapes Go.WideShapes
section
variable {P : Program} {W : World}
theorem SR.start (W : World) : SR P ⟨World.env W,fun _=>none,fun _=>none⟩ (fun b=>W.heap[b]?) (fun _=>undef) [] W:=
 ⟨rfl,fun _ _ h=>h,by simp,fun i j x e=>by simp [blkOf] at e,fun i x e=>by simp [blkOf] at e,by simp,fun i x e=>by simp [blkOf] at e⟩
theorem Comp.law {f : FuncId} {rs : List AV} (x : Comp P f rs (.bool true)) {args : Array Value} (hr : RepL P (fun b=>W.heap[b]?) (fun _=>undef) [] rs args.toList) :
  Calls P f args W fun e W'=>e = .returned (.bool true) /\ World.env W' = World.env W /\ ∀ (b : Nat) o,W.heap[b]? = some o -> W'.heap[b]? = some o:=by
 have h:=(x.o.2 _ _ _ W args.toList (SR.start W) hr).calls (fun _ _ hd=>by cases hd)
 have e : args.toList.toArray = args:=by simp
 rw [e] at h
 refine h.mono ?_
 rintro e w' ⟨r,H',h',β',v,rfl,⟨rfl,rfl⟩,X,s',hv⟩
 cases hv
 exact ⟨rfl,s'.env,fun b o hb=>s'.imm b o (X.imm b o hb)⟩
theorem zeu {W' : World} {may : MemPlace -> Prop} (he : World.env W' = World.env W) (hk : ∀ (b : Nat) o,W.heap[b]? = some o -> W'.heap[b]? = some o) : W.keptBut W' may:=by
 refine ⟨congrArg Env0.os he,congrArg Env0.out he,fun i hi=>?_⟩
 have h1 : W.heap[i]? = some W.heap[i]:=Array.getElem?_eq_getElem hi
 have h2:=hk i _ h1
 rw [h1,h2]
 generalize W.heap[i] = o
 cases o <;> simp
theorem vT {H : Type} {enc : TypeId × Value -> H} (hl : laidOutB P = true) {W' : World} {sp' : Nat -> Bool} (hk : ∀ (b : Nat) o,W.heap[b]? = some o -> W'.heap[b]? = some o) (hwt : ∀ p,(∃ o,W.heap[MemPlace.block p]? = some o) -> sp' p.block = true) :
  ∀ {ts : List TypeId} {vs : List Value} {ds : List (DataW H)} {ps : List MemPlace},(∀ t ∈ ts,P.readableRec t = true /\ t < P.types.size) -> (∀ p ∈ ps,∃ o,W.heap[MemPlace.block p]? = some o) -> DataW.TrodAll enc P W 0 (fun _=>true) true ts vs ds ps -> DataW.TrodAll enc P W' 0 sp' true ts vs ds ps
 | [],vs,ds,ps,_,_,h=>by obtain ⟨rfl,rfl,rfl⟩:=trodAll_nil h;rfl
 | t :: ts,vs,ds,ps,ht,hp,h=>by
   obtain ⟨v,vs1,d,ds1,p,q,rfl,rfl,rfl,h1,h2⟩:=trodAll_cons h
   have ht0:=ht t List.mem_cons_self
   refine ⟨p,q,Go.WideElems.Trod_stays hl ht0.1 ht0.2 h1 (fun x hx=>?_) (fun x hx=>hwt x (hp x (List.mem_append_left _ hx))),vT hl hk hwt (fun t' h'=>ht t' (List.mem_cons_of_mem _ h')) (fun x hx=>hp x (List.mem_append_right _ hx)) h2,rfl⟩
   obtain ⟨o,ho⟩:=hp x (List.mem_append_left _ hx)
   cases x with
   | cell b off=>simp only [World.sameAt,World.cell?,MemPlace.block] at ho ⊢;rw [ho,hk _ _ ho]
   | map b=>simp only [World.sameAt,MemPlace.block] at ho ⊢;rw [ho,hk _ _ ho]
theorem post_true {H : Type} {enc : TypeId × Value -> H} {fn : Func} {s : ChangeSpec} {tb : TypeId} {W' : World} {args : Array Value} {ds gs : List (DataW H)} {before : List MemPlace}
  (ht : fn.resultTypes = #[tb]) (hu : P.underlying tb = some .bool) (hl : laidOutB P = true) (hr : ∀ t ∈ fn.params.toList,P.readableRec t = true /\ t < P.types.size) (hv : s.vars = [])
  (hW : DataW.Whole enc P fn.params.toList s.vars false W args.toList ds gs before) (hs : gs = [] -> s.fn H (ds ++ gs) = { results:=[.lit (.bool true)],args:=ds })
  (he : World.env W' = World.env W) (hk : ∀ (b : Nat) o,W.heap[b]? = some o -> W'.heap[b]? = some o) : s.post enc P fn false true false false W args (.bool true) W':=by
 have hW':=hW
 obtain ⟨p,q,hA,hV,hb,hz,_⟩:=hW
 rw [hv] at hV
 obtain ⟨rfl,rfl⟩:=trodVars_none hV
 rw [List.append_nil] at hb
 subst hb
 have hs:=hs rfl
 have hlt : ∀ x ∈ before,∃ o,W.heap[MemPlace.block x]? = some o:=fun x hx=>⟨_,Array.getElem?_eq_getElem (hW'.lt x hx)⟩
 refine ⟨ds,[],before,[],before,[],hW',?_,?_,?_,zeu he hk,fun h=>by cases h⟩
 ·rw [hs,ht]
  exact trodAll_cons_mk (shut_bool hu _) trodAll_mk0
 ·rw [hs]
  exact vT hl hk (fun x ⟨o,ho⟩=>by simpa using (Array.getElem?_eq_some_iff.1 ho).1) hr hlt hA
 ·rw [hv,hs];rfl
end
end GA
end
section
namespace GA
open Go Go.RowKit
section
variable {P : Program} {T : Tab} {N : Nat} {ρ : Option Nat} {own : List Nat} {E : Env} {h h' : Nat -> Option Obj} {β β' : Nat -> Value} {H H' Hn : List Blk} {w w' : World} {σ : St} {D : List Nat}
structure kW (P : Program) (f : FuncId) (rs : List AV) (r : AV) (Hn : List Blk) : Prop where
 lo : lowL 0 rs = true
 lr : r.low Hn.length = true
 lH : ∀ x ∈ Hn,x.low Hn.length = true
 o : yo P f rs [] fun r' H'=>r' = r /\ H' = Hn
theorem SR.beside (s : SR P E h β H w) {E' : Env} (hb : E'.b = E.b) (h1 : ∀ i b,blkOf β H i = some b -> E'.fr b = w.heap[b]?) (h2 : ∀ b,(∀ i,blkOf β H i ≠ some b) -> E'.fr b = E.fr b)
  (X : Ext h β [] h' β' Hn) (s' : SR P E' h' β' Hn w') (lo : ∀ x ∈ Hn,x.low Hn.length = true) :
  ∃ β'',Ren (H.length + ·) β' Hn β'' (H ++ Hn.map (Blk.ren (H.length + ·))) /\ Ext h β H h' β'' (H ++ Hn.map (Blk.ren (H.length + ·))) /\ SR P E h' β'' (H ++ Hn.map (Blk.ren (H.length + ·))) w':=by
 let β'' : Nat -> Value:=fun i=>if i < H.length then β i else β' (i - H.length)
 have b1 : ∀ i,i < H.length -> β'' i = β i:=fun i hi=>if_pos hi
 have b2 : ∀ i,β'' (H.length + i) = β' i:=fun i=>by
  show (if H.length + i < H.length then β (H.length + i) else β' (H.length + i - H.length)) = β' i
  rw [if_neg (by omega)];congr 1;omega
 have R : Ren (H.length + ·) β' Hn β'' (H ++ Hn.map (Blk.ren (H.length + ·))):=by
  refine ⟨fun i x e=>?_,fun i hi=>b2 i⟩
  rw [List.getElem?_append_right (by omega),List.getElem?_map,show H.length + i - H.length = i by omega,e];rfl
 have hlow : ∀ i,i < H.length -> (H ++ Hn.map (Blk.ren (H.length + ·)))[i]? = H[i]?:=fun i hi=>List.getElem?_append_left hi
 have X' : Ext h β H h' β'' (H ++ Hn.map (Blk.ren (H.length + ·))):=by
  refine ⟨X.imm,by simp,fun i x x' e e'=>?_⟩
  have hi:=(List.getElem?_eq_some_iff.1 e).1
  rw [hlow i hi,e] at e';cases e'
  have:=Blk.to_refl β i x
  cases x <;> first|exact rfl | trivial|(simp only [Blk.to,b1 i hi] at this ⊢;exact this)
 have o1 : ∀ i,i < H.length -> blkOf β'' (H ++ Hn.map (Blk.ren (H.length + ·))) i = blkOf β H i:=fun i hi=>by
  unfold blkOf;rw [hlow i hi,b1 i hi]
 have o2 : ∀ i,i < Hn.length -> blkOf β'' (H ++ Hn.map (Blk.ren (H.length + ·))) (H.length + i) = blkOf β' Hn i:=fun i hi=>R.blkOf hi
 have hsplit : ∀ i x,blkOf β'' (H ++ Hn.map (Blk.ren (H.length + ·))) i = some x -> (i < H.length /\ blkOf β H i = some x) \/ ∃ j,j < Hn.length /\ i = H.length + j /\ blkOf β' Hn j = some x:=by
  intro i x e
  have hi:=(yr e).1
  simp only [List.length_append,List.length_map] at hi
  by_cases hlt : i < H.length
  ·exact .inl ⟨hlt,by rw [<- o1 i hlt];exact e⟩
  ·refine .inr ⟨i - H.length,by omega,by omega,?_⟩
   rw [<- o2 _ (by omega),show H.length + (i - H.length) = i by omega];exact e
 have hclash : ∀ i j b,blkOf β H i = some b -> blkOf β' Hn j = some b -> False:=by
  intro i j b e1 e2
  have h3:=s'.fro j b e2
  rw [h1 i b e1,Array.getElem?_eq_getElem (s.lt e1)] at h3
  cases h3
 have hkeep : ∀ i b,blkOf β H i = some b -> w'.heap[b]? = w.heap[b]? /\ h' b = none:=by
  intro i b e
  have hlt:=s.lt e
  have e1 : E'.fr b = some w.heap[b]:=by rw [h1 i b e,Array.getElem?_eq_getElem hlt]
  obtain ⟨e2,e3⟩:=s'.frm b _ e1
  exact ⟨by rw [e2,Array.getElem?_eq_getElem hlt],e3⟩
 refine ⟨β'',R,X',s'.env.trans hb,s'.imm,fun i x e=>?_,fun i j x e1 e2=>?_,fun i x e=>?_,fun b o e=>?_,fun i x e=>?_⟩
 ·by_cases hlt : i < H.length
  ·rw [hlow i hlt] at e
   exact (s.blk i x e).keep X' (b1 i hlt) fun hd hd' b hb=>(hkeep i b (by unfold blkOf;rw [e];cases x <;> first|exact absurd rfl hd|exact absurd rfl hd'|exact hb)).1
  ·have hi:=(List.getElem?_eq_some_iff.1 e).1
   simp only [List.length_append,List.length_map] at hi
   rw [List.getElem?_append_right (by omega),List.getElem?_map] at e
   obtain ⟨y,hy,rfl⟩:=Option.map_eq_some_iff.1 e
   have:=R.blk (i:=i - H.length) (by omega) (s'.blk _ _ hy)
   simp only at this
   rwa [show H.length + (i - H.length) = i by omega] at this
 ·rcases hsplit i x e1 with ⟨_,a1⟩ | ⟨i',_,rfl,a1⟩ <;> rcases hsplit j x e2 with ⟨_,a2⟩ | ⟨j',_,rfl,a2⟩
  ·exact s.own _ _ _ a1 a2
  ·exact (hclash _ _ _ a1 a2).elim
  ·exact (hclash _ _ _ a2 a1).elim
  ·rw [s'.own _ _ _ a1 a2]
 ·rcases hsplit i x e with ⟨_,a1⟩ | ⟨i',_,rfl,a1⟩
  ·exact (hkeep i x a1).2
  ·exact s'.fresh _ _ a1
 ·by_cases hh : ∃ i,blkOf β H i = some b
  ·obtain ⟨i,hi⟩:=hh
   rw [s.fro _ _ hi] at e;cases e
  ·exact s'.frm b o (by rw [h2 b (fun i hi=>hh ⟨i,hi⟩)];exact e)
 ·rcases hsplit i x e with ⟨_,a1⟩ | ⟨j,_,rfl,a1⟩
  ·exact s.fro _ _ a1
  ·have h3:=s'.fro _ _ a1
   rw [h2 x (fun i hi=>hclash _ _ _ hi a1)] at h3
   exact h3
theorem yo.give {f : FuncId} {rs : List AV} {r : AV} {k : AV -> List Blk -> Prop} (x : kW P f rs r Hn) (hk : k (r.ren (H.length + ·)) (H ++ Hn.map (Blk.ren (H.length + ·)))) : yo P f rs H k:=by
 refine ⟨x.o.1,fun E h β w vs s hr=>?_⟩
 classical
 let E' : Env:=⟨E.b,fun b=>if ∃ i,blkOf β H i = some b then w.heap[b]? else E.fr b,E.en⟩
 have s0 : SR P E' h β [] w:=by
  refine ⟨s.env,s.imm,fun i x e=>by simp at e,fun i j x e=>by simp [blkOf] at e,fun i x e=>by simp [blkOf] at e,fun b o e=>?_,fun i x e=>by simp [blkOf] at e⟩
  simp only [E'] at e
  split at e
  ·rename_i hh;obtain ⟨i,hi⟩:=hh;exact ⟨e,s.fresh _ _ hi⟩
  ·exact s.frm b o e
 have hr0 : RepL P h β [] rs vs:=⟨hr.1,fun j y e=>by
  obtain ⟨v,e1,e2⟩:=hr.2 j y e
  exact ⟨v,e1,Rep.cut (H:=[]) (l:=H) e2 ((zt.1 x.lo) y (List.mem_of_getElem? e))⟩⟩
 refine (x.o.2 E' h β w vs s0 hr0).mono ?_
 rintro e w' ⟨r1,H1,h',β',v,rfl,⟨rfl,rfl⟩,X,s',hrep⟩
 obtain ⟨β'',R,X',s''⟩:=s.beside (E':=E') rfl (fun i b e=>by simp only [E'];rw [if_pos ⟨i,e⟩]) (fun b hn=>by simp only [E'];rw [if_neg (fun ⟨i,hi⟩=>hn i hi)]) X s' x.lH
 exact ⟨_,_,h',β'',v,rfl,hk,X',s'',R.rep hrep⟩
theorem za.give {f : FuncId} {rs : List AV} {r : AV} {k : AV -> List Blk -> Prop} (x : kW P f rs r Hn) (hk : k (r.ren (H.length + ·)) (H ++ Hn.map (Blk.ren (H.length + ·)))) : za P f rs H k:=⟨.give x hk⟩
theorem kW.comp {f : FuncId} {rs : List AV} {r r0 : AV} (x : kW P f rs r Hn) (hf : Froz P Hn r r0) : Comp P f rs r0:=by
 refine ⟨x.lo,x.o.1,fun E h β w vs s hr=>?_⟩
 refine (x.o.2 E h β w vs s hr).mono ?_
 rintro e w' ⟨r1,H1,h',β',v,rfl,⟨rfl,rfl⟩,X,s',hrep⟩
 refine ⟨r0,[],hall h' β' H1 w',β,v,rfl,⟨rfl,rfl⟩,⟨fun b o e=>wE s' (X.imm b o e),Nat.le_refl _,fun i x x' e=>by simp at e⟩,?_,(hf _ _ _ _ s' v hrep).none⟩
 have s2:=s'.all
 exact ⟨s2.env,s2.imm,fun i x e=>by simp at e,fun i j x e=>by simp [blkOf] at e,fun i x e=>by simp [blkOf] at e,s2.frm,fun i x e=>by simp [blkOf] at e⟩
def SelR (f : Nat -> Nat) (H : List Blk) : Nat -> List Blk -> Prop
 | _,[]=>True
 | i,x :: l=>lget H (f i) = some (x.ren f) /\ SelR f H (i + 1) l
theorem SelR.get {f : Nat -> Nat} {H : List Blk} : ∀ {l : List Blk} {i : Nat},SelR f H i l -> ∀ (j : Nat) x,l[j]? = some x -> lget H (f (i + j)) = some (x.ren f)
 | [],_,_,j,x,e=>by simp at e
 | y :: l,i,h,0,x,e=>by simp at e;subst e;exact h.1
 | y :: l,i,h,j + 1,x,e=>by
   have:=SelR.get h.2 j x (by simpa using e)
   rwa [Nat.add_right_comm] at this
structure jK (H : List Blk) (r' r : AV) (Hn : List Blk) : Prop where
 o : ∃ l : List Nat,l.length = Hn.length /\ l.Nodup /\ SelR (rnF l) H 0 Hn /\ r' = r.ren (rnF l)
theorem jK.mk' {H : List Blk} {r' r : AV} {Hn : List Blk} (l : List Nat) (h1 : l.length = Hn.length) (h2 : l.Nodup) (h3 : SelR (rnF l) H 0 Hn) (h4 : r' = r.ren (rnF l)) : jK H r' r Hn:=⟨l,h1,h2,h3,h4⟩
theorem kW.body {f : FuncId} {fn : Func} {c : Code} {rs : List AV} {res : List ResultVar} {r : AV} (ok : zA P T) (own : List Nat) (hf : P.funcs[f]? = some fn) (hb : fn.body = some c) (hn : (fn.name == "runtime.NumGoroutine") = false)
  (hN : fn.ntmps = N) (hr : fn.results = res.toArray) (hl : rs.length <= N) (lo : lowL 0 rs = true) (lr : r.low Hn.length = true) (lH : ∀ x ∈ Hn,x.low Hn.length = true)
  (x : XRun P T N none own c (XIn T res fun r' H'=>jK H' r' r Hn) [] (argX rs) []) : kW P f rs r Hn:=by
 refine ⟨lo,lr,lH,?_⟩
 obtain ⟨h1,h2⟩:=yo.inl ok own hf hb hn hN hr hl x
 refine ⟨h1,fun E h β w vs s hrs=>(h2 E h β w vs s hrs).mono ?_⟩
 rintro e w' ⟨r',H',h',β',v,rfl,⟨l,g1,g2,g3,g4⟩,X,s',hrep⟩
 have inj : ∀ i j,i < Hn.length -> j < Hn.length -> rnF l i = rnF l j -> i = j:=by
  intro i j hi hj e
  unfold rnF at e
  rw [zr,zr,List.getElem?_eq_getElem (by omega),List.getElem?_eq_getElem (by omega)] at e
  exact (List.getElem_inj g2).1 e
 have R : Ren (rnF l) (fun i=>β' (rnF l i)) Hn β' H':=⟨fun i x e=>by
  have:=g3.get i x e
  rw [Nat.zero_add,zr] at this;exact this,fun _ _=>rfl⟩
 exact ⟨r,Hn,h',_,v,rfl,⟨rfl,rfl⟩,⟨X.imm,Nat.zero_le _,fun i x x' e=>by simp at e⟩,R.sr s' inj lH,R.unrep hrep g4.symm lr⟩
theorem Walk.nilcell {c : Code} {Q : Post} (j o : Nat) (te : TypeId) {cs : List AV} (hj : lget H j = some (.cells cs)) (hc : lget cs o = some (.sl true [])) (x : Walk P N ρ c Q D σ (H.set j (.cells (cs.set o (.gr H.length 0))) ++ [.grow te true []])) : Walk P N ρ c Q D σ H:=by
 constructor
 intro E h β a w s
 rw [zr] at hj hc
 have hlt:=(List.getElem?_eq_some_iff.1 hj).1
 have hlo:=(List.getElem?_eq_some_iff.1 hc).1
 obtain ⟨s1,X1⟩:=s.sr.push (w':=w) s.sr.env (fun _ _=>rfl) (.slice none 0 0) (.grow te true []) (by intro b hb;simp [anchor] at hb) (fun _=>.inl ⟨rfl,rfl,by simp [upb]⟩)
 have hj1 : (H ++ [Blk.grow te true []])[j]? = some (.cells cs):=by rw [List.getElem?_append_left hlt];exact hj
 obtain ⟨s2,X2⟩:=s1.modify (β':=upb β H.length (.slice none 0 0)) (w':=w) (x':=.cells (cs.set o (.gr H.length 0))) hj1 (fun _ _=>rfl) (.inr ⟨_,rfl,rfl⟩) s1.env (fun _ _ _=>rfl) (fun b e=>.inl (by unfold blkOf;rw [hj1];exact e)) (fun X=>by
  obtain ⟨b,c,t,h1,h2,h3,h4,us,h5,h6⟩:=s1.blk j _ hj1
  refine ⟨b,c,t,h1,h2,by rw [List.length_set];exact h3,fun y hy=>?_,us,fun i y e=>?_,fun i y e=>?_⟩
  ·rcases List.mem_or_eq_of_mem_set hy with hy | rfl
   ·exact h4 y hy
   ·rfl
  ·by_cases hio : o = i
   ·subst hio;exact h5 o _ hc
   ·rw [List.getElem?_set_ne hio] at e;exact h5 i y e
  ·by_cases hio : o = i
   ·subst hio
    rw [List.getElem?_set_self hlo] at e;cases e
    have h7:=h6 o _ hc
    cases h : us o <;> rw [h] at h7 <;> cases h7
    refine .gr rfl ⟨_,by rw [List.getElem?_set_ne (by omega),List.getElem?_append_right (Nat.le_refl _),Nat.sub_self];rfl,rfl⟩ fun t' nl els e=>?_
    rw [List.getElem?_set_ne (by omega),List.getElem?_append_right (Nat.le_refl _),Nat.sub_self] at e
    simp at e;obtain ⟨_,_,rfl⟩:=e
    exact ⟨Nat.le_refl _,fun _=>by simp [upb]⟩
   ·rw [List.getElem?_set_ne hio] at e;exact X.rep (h6 i y e))
 rw [List.set_append_left _ _ hlt] at s2 X2
 exact wpIn_mono (x.o E h _ a w ⟨s2,fun u r e=>let ⟨v,h1,h2⟩:=s.fits u r e;⟨v,h1,(X1.trans X2).rep h2⟩,s.size,s.df.ext (X1.trans X2)⟩) fun _ _ _=>Conc.ext (X1.trans X2)
noncomputable def yx (n : Nat) (h : Nat -> Option Obj) (β : Nat -> Value) (H : List Blk) (w : World) : Nat -> Option Obj:=by
 classical exact fun b=>if ∃ i,n <= i /\ blkOf β H i = some b then w.heap[b]? else h b
theorem zbP {n b i : Nat} (hi : n <= i) (e : blkOf β H i = some b) : yx n h β H w b = w.heap[b]?:=by
 unfold yx;rw [if_pos ⟨i,hi,e⟩]
theorem kE {n : Nat} (s : SR P E h β H w) {b : Nat} {o : Obj} (e : h b = some o) : yx n h β H w b = some o:=by
 unfold yx;split
 ·rename_i hh;obtain ⟨i,_,hi⟩:=hh;rw [s.fresh _ _ hi] at e;cases e
 ·exact e
theorem SR.allN {H1 l : List Blk} (s : SR P E h β (H1 ++ l) w) (lo : ∀ x ∈ H1,x.low H1.length = true) : SR P E (yx H1.length h β (H1 ++ l) w) β H1 w:=by
 have s1:=s.cut lo
 have hb : ∀ i,i < H1.length -> blkOf β H1 i = blkOf β (H1 ++ l) i:=fun i hi=>by unfold blkOf;rw [List.getElem?_append_left hi]
 have hlt : ∀ {i x},blkOf β H1 i = some x -> i < H1.length:=fun e=>(yr e).1
 have X : Ext h β H1 (yx H1.length h β (H1 ++ l) w) β H1:=⟨fun b o e=>kE s e,Nat.le_refl _,fun i x x' e e'=>by rw [e] at e';cases e';exact Blk.to_refl _ _ _⟩
 refine ⟨s1.env,fun b o e=>?_,fun i x e=>(s1.blk i x e).keep X rfl (fun _ _ _ _=>rfl),s1.own,fun i x e=>?_,fun b o e=>⟨(s.frm b o e).1,?_⟩,s1.fro⟩
 ·unfold yx at e;split at e
  ·exact e
  ·exact s.imm b o e
 ·have hi:=hlt e
  unfold yx;rw [if_neg]
  ·exact s1.fresh i x e
  ·rintro ⟨j,hj,hj2⟩
   have:=s.own i j x (by rw [<- hb i hi];exact e) hj2
   omega
 ·unfold yx;rw [if_neg]
  ·exact (s.frm b o e).2
  ·rintro ⟨j,hj,hj2⟩
   rw [s.fro _ _ hj2] at e;cases e
def zaM (P : Program) (n : Nat) (H : List Blk) (r r' : AV) : Prop:=
 ∀ E h β w,SR P E h β H w -> ∀ v,Rep P h β H r v -> ∀ H1 : List Blk,Rep P (yx n h β H w) β H1 r' v
theorem zaM.low {n : Nat} {r : AV} (hl : r.low 0 = true) : zaM P n H r r:=by
 intro E h β w s v hr H1
 have h0 : Rep P h β [] r v:=Rep.cut (H:=[]) (l:=H) hr hl
 have X : Ext h β [] (yx n h β H w) β []:=⟨fun b o e=>kE s e,Nat.le_refl _,by simp⟩
 exact (X.rep h0).none
theorem zaM.grow {n i m : Nat} {t : TypeId} {nl : Bool} {els : List AV} (hi : n <= i) (hb : lget H i = some (.grow t nl els)) (hn : els.length = m) (hl : lowL 0 els = true) : zaM P n H (.gr i m) (.sl nl els):=by
 have hb':=hb;rw [zr] at hb'
 intro E h β w s v hr H1
 cases hr with
 | gr ho hlv hv =>
   obtain ⟨h1,h2⟩:=hv _ _ _ hb'
   have hβ:=h2 hn
   subst hβ
   rcases s.blk i _ hb' with ⟨rfl,rfl,h3⟩ | ⟨rfl,rfl,b,h3⟩ | ⟨rfl,b,cap,c,h3,h4,h5,h6,h7,h8,h9,h10,h11,us,h12,h13⟩
   ·rw [h3];exact .slnil
   ·rw [h3];exact .slemp
   ·rw [h3]
    cases els with
    | nil=>exact .slemp
    | cons e0 l0 =>
      have hbo : blkOf β H i = some b:=by simp only [blkOf,hb',h3,anchor];rw [if_neg (by omega)]
      refine .sl us rfl (by simp) ((zbP hi hbo).trans h5) h10 h9 h11 h6 (fun j x e=>?_) (fun j x e=>?_)
      ·rw [Nat.zero_add];exact h12 j x e
      ·exact zaM.low (zt.1 (by rw [zt];exact jb.1 hl) x (List.mem_of_getElem? e)) E h β w s _ (h13 j x e) H1
end
end GA
end
