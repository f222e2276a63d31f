/- Part 8 of a proof: V7, V8, V9. -/
import Derived.Test.YtnjobcijpmnloaaGreatP7
set_option linter.unusedVariables false
set_option linter.unusedSimpArgs false
set_option maxRecDepth 8000
section
namespace GA
open Go Go.RowKit Go.Proofs
structure GivesS : Prop where
 fewest : ∀ l,LdW l -> (∃ a e : Int,Comp Tryz.prog 7 [ldA l] (.tup [.sl true [],.int .i64 a,.int .i64 e])) \/
  ∃ (o : List Int) (m : Int),o.length = l.sacks.length /\ kW Tryz.prog 7 [ldA l] (.tup [.gr 0 o.length,.int .i64 m,.int .i64 0]) [.grow 3 false (ints o)]
 weights : ∀ l,LdW l -> ∃ (nl : Bool) (xs : List Int) (e : Int),Comp Tryz.prog 8 [ldA l] (.tup [.sl nl (ints xs),.int .i64 e])
 share : ∀ l,LdW l -> ∀ n : Int,∃ (nl : Bool) (xs : List Int) (e : Int),xs.length <= 100000 /\ Comp Tryz.prog 9 [ldA l,.int .i64 n] (.tup [.sl nl (ints xs),.int .i64 e])
 divisor : ∀ l,LdW l -> ∀ (nl : Bool) (xs : List Int),xs.length <= 100000 -> ∃ (d : Int × Int) (e : Int),Comp Tryz.prog 10 [ldA l,.sl nl (ints xs)] (.tup [rtA d,.int .i64 e])
 best : ∀ l,LdW l -> ∀ c : Int,∃ (nl : Bool) (xs : List Int) (w e : Int),Comp Tryz.prog 11 [ldA l,.int .i64 c] (.tup [.sl nl (ints xs),.int .i64 w,.int .i64 e])
theorem za.giveInts3 {P : Program} {f : FuncId} {rs : List AV} {te n : Nat} {nl : Bool} {l : List Int} {m e : Int} {H : List Blk} {k : AV -> List Blk -> Prop} (j : Nat) (H' : List Blk) (hj : H.length = j) (hH : H ++ [.grow te nl (ints l)] = H')
  (x : kW P f rs (.tup [.gr 0 n,.int .i64 m,.int .i64 e]) [.grow te nl (ints l)]) (hk : k (.tup [.gr j n,.int .i64 m,.int .i64 e]) H') : za P f rs H k:=by
 subst hj;subst hH
 refine za.give x ?_
 rw [show ([Blk.grow te nl (ints l)] : List Blk).map (Blk.ren (H.length + ·)) = [.grow te nl (ints l)] from congrArg (fun y=>[y]) (wF _ _ _ _)]
 exact hk
theorem apK_le (n : Nat) : apK n <= 2:=by
 have:=tmI (x:=(n : Int).tdiv 3) (k:=3) (tdI (by omega) (by omega)).1 (by omega)
 unfold apK;split <;> omega
theorem wiK_le (n : Nat) : wiK n <= 2:=by
 have:=tmI (x:=(n : Int).tdiv 2) (k:=3) (tdI (by omega) (by omega)).1 (by omega)
 unfold wiK;split <;> omega
theorem smL_w (n : Nat) : LdW (smL n):=by
 have h1:=apK_le n
 have h2:=wiK_le n
 have h3:=zH (skN n) (n % 6)
 have h4:=zH (apN n (n % 6)) (apK n)
 have h5:=zH (wiN n (n % 6)) (wiK n)
 exact ⟨fun h=>List.isEmpty_iff.1 h,(show (rowN (skN n) (n % 6)).length <= 100000 by omega),(show (rowN (apN n (n % 6)) (apK n)).length <= 1000 by omega),(show (rowN (wiN n (n % 6)) (wiK n)).length <= 1000 by omega)⟩
set_option maxHeartbeats 4000000 in
theorem ssLoads (L : zbF) (G : GivesS) : XRun Tryz.prog tab 433 none [68,77,78,79,82,84,87,89] (tailC 3 (theC Tryz.f3.body)) (XFn Tryz.prog tab [.tmp 0] (.bool true)) [] (stX []) []:=by
 /-
 refine Comp.body (T:=tab) (res:=[.tmp 0]) zb [] Tryz.func3 rfl (by kernel_rfl) Tryz.ntmps3 rfl (by simp only [List.length_cons,List.length_nil];decide) (by rfl) ?_;conv=>whnf
 -/
 conv=>whnf
 refine Walk.thenKeep ?_
 refine Walk.loopGK zb [] [] trivial (fun n : Nat=>n <= 36) (fun n=>[(156,natA n)]) (fun _=>[]) (fun n=>36 - n) 0 (Nat.zero_le _) rfl ⟨rfl,trivial⟩ ?_ (fun _ _=>Nat.le_refl _) ?_
 ·intro n _
  refine ⟨fun z hz=>(by cases hz),fun z hz=>?_⟩
  simp only [List.cons_append,List.nil_append,List.mem_cons,List.not_mem_nil,or_false] at hz
  subst hz;rfl
 intro n hn
 have b9:=tmI (x:=n) (k:=9) (by omega) (by omega)
 have b6:=tmI (x:=n) (k:=6) (by omega) (by omega)
 have b4:=tmI (x:=n) (k:=4) (by omega) (by omega)
 have b3:=tmI (x:=n) (k:=3) (by omega) (by omega)
 have b2:=tmI (x:=n) (k:=2) (by omega) (by omega)
 have d3:=tdI (x:=n) (k:=3) (by omega) (by omega)
 have d2:=tdI (x:=n) (k:=2) (by omega) (by omega)
 have b33:=tmI (x:=(n : Int).tdiv 3) (k:=3) d3.1 (by omega)
 have b23:=tmI (x:=(n : Int).tdiv 2) (k:=3) d2.1 (by omega)
 have hm6 : (n : Int).tmod 6 = ((n % 6 : Nat) : Int):=by rw [Int.tmod_eq_emod_of_nonneg (by omega)];omega
 conv=>whnf
 by_cases hn36 : n < 36
 ·skip
  repeat' first|((with_reducible refine XInt.a ?_);conv=>whnf)|((with_reducible apply XBr.dec) <;> (intro h;first|(exfalso;omega)|((try simp only [List.length_map] at h);first|(exfalso;omega)|(conv=>whnf))))|((with_reducible refine zj.mk ?_ ?_);(first | omega | rfl | decide|exact ⟨rfl,by decide,rfl⟩|exact zz _|exact zp _|exact zq _|(unfold Room;constructor <;> ((try simp) <;> omega))|exact ⟨rfl,by simp only [List.length_map],by unfold Room;constructor <;> ((try simp) <;> omega)⟩|exact ⟨by omega,by omega,by unfold Room;constructor <;> ((try simp) <;> omega)⟩);conv=>whnf)|fail
  refine Walk.nilcell 0 2 36 rfl rfl ?_
  refine Walk.nilcell 0 3 31 rfl rfl ?_
  refine Walk.nilcell 0 4 31 rfl rfl ?_
  by_cases h16 : 1 < n % 6
  ·skip
   refine Walk.loopK zb [] [(18,_),(19,_),(156,_),(167,_)] ⟨rfl,rfl,rfl,rfl,trivial⟩ (fun j : Nat=>(j : Int) <= (n : Int).tmod 6) (fun j=>[(168,natA j)]) (fun j=>[.cells [.int .i64 (8 + (n : Int).tmod 9),.int .i64 ((n : Int).tmod 4 * 15),.gr 1 j,.gr 2 0,.gr 3 0],.grow 36 (rowN (skN n) j).isEmpty ((rowN (skN n) j).map skA),.grow 31 true [],.grow 31 true []]) (fun j=>((n : Int).tmod 6).toNat - j) 0 (by omega) rfl ⟨rfl,trivial⟩ ?_
   intro j hj
   have hx1:=kF (skN n) j
   have hsk : skA (skN n j) = .agg [.int .i64 (1 + ((n : Int) * ((j : Int) + 3)).tmod 9),.int .i64 (((n : Int).tdiv ((j : Int) + 1)).tmod 4)]:=rfl
   have hr1 : ((rowN (skN n) j).map skA).length = j:=by rw [List.length_map,zH]
   have hrw:=zH (skN n) j
   have hp0 : 0 <= (n : Int) * ((j : Int) + 3):=Int.mul_nonneg (by omega) (by omega)
   have hp1 : (n : Int) * ((j : Int) + 3) <= 36 * 9:=Int.mul_le_mul (by omega) (by omega) (by omega) (by omega)
   have hp2:=tmI (x:=(n : Int) * ((j : Int) + 3)) (k:=9) hp0 (by omega)
   have hq0:=tdI (x:=n) (k:=(j : Int) + 1) (by omega) (by omega)
   have hq1:=tmI (x:=(n : Int).tdiv ((j : Int) + 1)) (k:=4) hq0.1 (by omega)
   conv=>whnf
   by_cases hlt : (j : Int) < (n : Int).tmod 6
   ·skip
    repeat' ((with_reducible apply XBr.dec) <;> (intro h;first|(exfalso;omega)|((try simp only [List.length_map] at h);first|(exfalso;omega)|(conv=>whnf))))
    apply Walk.drawX zb zk [] [15,17] (hsC [_,_,_]) [_,_,_,_,_,_,_,_,_,_,_,_,_,_,_,_,_,_] (zaO (by kernel_rfl)) rfl
    ·skip
     repeat' first|((with_reducible first|refine XInt.a ?_|apply Chk.go|apply ChkA.go);conv=>whnf)|(with_reducible first|apply XAnd.mk|exact trivial)|((with_reducible refine zj.mk ?_ ?_);(first | omega | rfl | decide|exact ⟨rfl,by decide,rfl⟩|exact zz _|exact zp _|exact zq _|(unfold Room;constructor <;> ((try simp) <;> omega))|exact ⟨rfl,by simp only [List.length_map],by unfold Room;constructor <;> ((try simp) <;> omega)⟩|exact ⟨by omega,by omega,by unfold Room;constructor <;> ((try simp) <;> omega)⟩);conv=>whnf)|(exact zg.mk rfl rfl)|fail
    ·skip
     repeat' first|((with_reducible first|refine XInt.a ?_|apply Chk.go|apply ChkF.go|apply ChkB.go);conv=>whnf)|(with_reducible first|apply XAnd.mk|exact trivial)|((with_reducible refine zj.mk ?_ ?_);(first | omega | rfl | decide|exact ⟨rfl,by decide,rfl⟩|exact zz _|exact zp _|exact zq _|(unfold Room;constructor <;> ((try simp) <;> omega))|exact ⟨rfl,by simp only [List.length_map],by unfold Room;constructor <;> ((try simp) <;> omega)⟩|exact ⟨by omega,by omega,by unfold Room;constructor <;> ((try simp) <;> omega)⟩);conv=>whnf)|(exact zg.mk rfl rfl)|fail
    conv=>whnf
    repeat' ((with_reducible refine XInt.a ?_);conv=>whnf)
    refine zh.go (j + 1) (by omega) (by omega) ?_ ⟨rfl,rfl,rfl,rfl,rfl,trivial⟩
    rw [hx1,yu,List.map_append];rfl
   obtain rfl : j = n % 6:=by omega
   conv=>whnf
   clear hx1 hsk hr1 hrw hp0 hp1 hp2 hq0 hq1
   repeat' first|((with_reducible refine XInt.a ?_);conv=>whnf)|((with_reducible apply XBr.dec) <;> (intro h;first|(exfalso;omega)|((try simp only [List.length_map] at h);first|(exfalso;omega)|(conv=>whnf))))|((with_reducible refine zj.mk ?_ ?_);(first | omega | rfl | decide|exact ⟨rfl,by decide,rfl⟩|exact zz _|exact zp _|exact zq _|(unfold Room;constructor <;> ((try simp) <;> omega))|exact ⟨rfl,by simp only [List.length_map],by unfold Room;constructor <;> ((try simp) <;> omega)⟩|exact ⟨by omega,by omega,by unfold Room;constructor <;> ((try simp) <;> omega)⟩);conv=>whnf)|((refine zj.mk (by rw [List.length_map,zH]) ?_);conv=>whnf)|fail
   refine Walk.loopK zb [] [(18,_),(19,_),(21,_),(156,_),(196,_)] ⟨rfl,rfl,rfl,rfl,rfl,trivial⟩ (fun i : Nat=>(i : Int) <= ((n : Int).tdiv 3).tmod 3) (fun i=>[(197,natA i)]) (fun i=>[.cells [.int .i64 (8 + (n : Int).tmod 9),.int .i64 ((n : Int).tmod 4 * 15),.gr 1 (n % 6),.gr 2 i,.gr 3 0],.grow 36 (rowN (skN n) (n % 6)).isEmpty ((rowN (skN n) (n % 6)).map skA),.grow 31 (rowN (apN n (n % 6)) i).isEmpty ((rowN (apN n (n % 6)) i).map prA),.grow 31 true []]) (fun i=>(((n : Int).tdiv 3).tmod 3).toNat - i) 0 (by omega) rfl ⟨rfl,trivial⟩ ?_
   intro i hi
   have hx2:=kF (apN n (n % 6)) i
   have hpa : prA (apN n (n % 6) i) = .agg [.int .i64 (((n : Int) + (i : Int)).tmod ((n % 6 : Nat) : Int)),.int .i64 (((n : Int) + (i : Int) + 1 + (i : Int).tmod (((n % 6 : Nat) : Int) - 1)).tmod ((n % 6 : Nat) : Int))]:=rfl
   have hr2 : ((rowN (apN n (n % 6)) i).map prA).length = i:=by rw [List.length_map,zH]
   have hrw2:=zH (apN n (n % 6)) i
   have t1:=tmI (x:=(n : Int) + (i : Int)) (k:=((n % 6 : Nat) : Int)) (by omega) (by omega)
   have t2:=tmI (x:=(i : Int)) (k:=((n % 6 : Nat) : Int) - 1) (by omega) (by omega)
   have t3:=tmI (x:=(n : Int) + (i : Int) + 1 + (i : Int).tmod (((n % 6 : Nat) : Int) - 1)) (k:=((n % 6 : Nat) : Int)) (by omega) (by omega)
   conv=>whnf
   by_cases hlt : (i : Int) < ((n : Int).tdiv 3).tmod 3
   ·skip
    repeat' ((with_reducible apply XBr.dec) <;> (intro h;first|(exfalso;omega)|((try simp only [List.length_map] at h);first|(exfalso;omega)|(conv=>whnf))))
    apply Walk.drawX zb zk [] [20,22] (hsC [_,_,_]) [_,_,_,_,_,_,_,_,_,_,_,_,_,_,_,_,_,_,_,_,_,_,_] (zaO (by kernel_rfl)) rfl
    ·skip
     repeat' first|((with_reducible first|refine XInt.a ?_|apply Chk.go|apply ChkA.go);conv=>whnf)|(with_reducible first|apply XAnd.mk|exact trivial)|((with_reducible refine zj.mk ?_ ?_);(first | omega | rfl | decide|exact ⟨rfl,by decide,rfl⟩|exact zz _|exact zp _|exact zq _|(unfold Room;constructor <;> ((try simp) <;> omega))|exact ⟨rfl,by simp only [List.length_map],by unfold Room;constructor <;> ((try simp) <;> omega)⟩|exact ⟨by omega,by omega,by unfold Room;constructor <;> ((try simp) <;> omega)⟩);conv=>whnf)|(exact zg.mk rfl rfl)|fail
    ·skip
     repeat' first|((with_reducible first|refine XInt.a ?_|apply Chk.go|apply ChkF.go|apply ChkB.go);conv=>whnf)|(with_reducible first|apply XAnd.mk|exact trivial)|((with_reducible refine zj.mk ?_ ?_);(first | omega | rfl | decide|exact ⟨rfl,by decide,rfl⟩|exact zz _|exact zp _|exact zq _|(unfold Room;constructor <;> ((try simp) <;> omega))|exact ⟨rfl,by simp only [List.length_map],by unfold Room;constructor <;> ((try simp) <;> omega)⟩|exact ⟨by omega,by omega,by unfold Room;constructor <;> ((try simp) <;> omega)⟩);conv=>whnf)|(exact zg.mk rfl rfl)|fail
    conv=>whnf
    repeat' ((with_reducible refine XInt.a ?_);conv=>whnf)
    refine zh.go (i + 1) (by omega) (by omega) ?_ ⟨rfl,rfl,rfl,rfl,rfl,rfl,trivial⟩
    rw [hx2,yu,List.map_append];rfl
   obtain rfl : i = apK n:=by unfold apK;rw [if_pos h16];omega
   clear hx2 hpa hr2 hrw2 t1 t2 t3
   conv=>whnf
   repeat' first|((with_reducible refine XInt.a ?_);conv=>whnf)|((with_reducible apply XBr.dec) <;> (intro h;first|(exfalso;omega)|((try simp only [List.length_map] at h);first|(exfalso;omega)|(conv=>whnf))))|((with_reducible refine zj.mk ?_ ?_);(first | omega | rfl | decide|exact ⟨rfl,by decide,rfl⟩|exact zz _|exact zp _|exact zq _|(unfold Room;constructor <;> ((try simp) <;> omega))|exact ⟨rfl,by simp only [List.length_map],by unfold Room;constructor <;> ((try simp) <;> omega)⟩|exact ⟨by omega,by omega,by unfold Room;constructor <;> ((try simp) <;> omega)⟩);conv=>whnf)|fail
   refine Walk.thenKeep ?_
   refine Walk.loopK zb [] [(18,_),(19,_),(21,_),(156,_),(225,_)] ⟨rfl,rfl,rfl,rfl,rfl,trivial⟩ (fun i : Nat=>(i : Int) <= ((n : Int).tdiv 2).tmod 3) (fun i=>[(226,natA i)]) (fun i=>[.cells [.int .i64 (8 + (n : Int).tmod 9),.int .i64 ((n : Int).tmod 4 * 15),.gr 1 (n % 6),.gr 2 (apK n),.gr 3 i],.grow 36 (rowN (skN n) (n % 6)).isEmpty ((rowN (skN n) (n % 6)).map skA),.grow 31 (rowN (apN n (n % 6)) (apK n)).isEmpty ((rowN (apN n (n % 6)) (apK n)).map prA),.grow 31 (rowN (wiN n (n % 6)) i).isEmpty ((rowN (wiN n (n % 6)) i).map prA)]) (fun i=>(((n : Int).tdiv 2).tmod 3).toNat - i) 0 (by omega) rfl ⟨rfl,trivial⟩ ?_
   intro i hi
   have hx2:=kF (wiN n (n % 6)) i
   have hpa : prA (wiN n (n % 6) i) = .agg [.int .i64 (((n : Int) + 2 * (i : Int)).tmod ((n % 6 : Nat) : Int)),.int .i64 (((n : Int) + 2 * (i : Int) + 1).tmod ((n % 6 : Nat) : Int))]:=rfl
   have hr2 : ((rowN (wiN n (n % 6)) i).map prA).length = i:=by rw [List.length_map,zH]
   have hrw2:=zH (wiN n (n % 6)) i
   have t1:=tmI (x:=(n : Int) + 2 * (i : Int)) (k:=((n % 6 : Nat) : Int)) (by omega) (by omega)
   have t2:=tmI (x:=(n : Int) + 2 * (i : Int) + 1) (k:=((n % 6 : Nat) : Int)) (by omega) (by omega)
   conv=>whnf
   by_cases hlt : (i : Int) < ((n : Int).tdiv 2).tmod 3
   ·skip
    repeat' ((with_reducible apply XBr.dec) <;> (intro h;first|(exfalso;omega)|((try simp only [List.length_map] at h);first|(exfalso;omega)|(conv=>whnf))))
    apply Walk.drawX zb zk [] [17,19] (hsC [_,_,_]) [_,_,_,_,_,_,_,_,_,_,_,_,_,_,_,_,_,_,_,_] (zaO (by kernel_rfl)) rfl
    ·skip
     repeat' first|((with_reducible first|refine XInt.a ?_|apply Chk.go|apply ChkA.go);conv=>whnf)|(with_reducible first|apply XAnd.mk|exact trivial)|((with_reducible refine zj.mk ?_ ?_);(first | omega | rfl | decide|exact ⟨rfl,by decide,rfl⟩|exact zz _|exact zp _|exact zq _|(unfold Room;constructor <;> ((try simp) <;> omega))|exact ⟨rfl,by simp only [List.length_map],by unfold Room;constructor <;> ((try simp) <;> omega)⟩|exact ⟨by omega,by omega,by unfold Room;constructor <;> ((try simp) <;> omega)⟩);conv=>whnf)|(exact zg.mk rfl rfl)|fail
    ·skip
     repeat' first|((with_reducible first|refine XInt.a ?_|apply Chk.go|apply ChkF.go|apply ChkB.go);conv=>whnf)|(with_reducible first|apply XAnd.mk|exact trivial)|((with_reducible refine zj.mk ?_ ?_);(first | omega | rfl | decide|exact ⟨rfl,by decide,rfl⟩|exact zz _|exact zp _|exact zq _|(unfold Room;constructor <;> ((try simp) <;> omega))|exact ⟨rfl,by simp only [List.length_map],by unfold Room;constructor <;> ((try simp) <;> omega)⟩|exact ⟨by omega,by omega,by unfold Room;constructor <;> ((try simp) <;> omega)⟩);conv=>whnf)|(exact zg.mk rfl rfl)|fail
    conv=>whnf
    repeat' ((with_reducible refine XInt.a ?_);conv=>whnf)
    refine zh.go (i + 1) (by omega) (by omega) ?_ ⟨rfl,rfl,rfl,rfl,rfl,rfl,trivial⟩
    rw [hx2,yu,List.map_append];rfl
   obtain rfl : i = wiK n:=by unfold wiK;rw [if_pos h16];omega
   clear hx2 hpa hr2 hrw2 t1 t2
   conv=>whnf
   repeat' ((with_reducible apply XBr.dec) <;> (intro h;first|(exfalso;omega)|((try simp only [List.length_map] at h);first|(exfalso;omega)|(conv=>whnf))))
   refine w8.go [] _ [(18,natA n),(19,.pim (ldC (smL n))),(156,natA n)] rfl (fun x hx=>by cases hx) ⟨⟨_,rfl,.same rfl⟩,⟨_,rfl,.all (Froz.ptr rfl (by intro v hv;simp only [ldC,List.mem_cons,List.not_mem_nil,or_false] at hv;rcases hv with rfl | rfl | rfl | rfl | rfl <;> rfl) (.cons (.low rfl) (.cons (.low rfl) (.cons (Froz.grow rfl ((List.length_map _).trans (zH _ _)) (yU _)) (.cons (Froz.grow rfl ((List.length_map _).trans (zH _ _)) (kg _)) (.cons (Froz.grow rfl ((List.length_map _).trans (zH _ _)) (kg _)) .nil))))))⟩,⟨_,rfl,.same rfl⟩,trivial⟩ ?_
   refine kY ?_
   have lw:=smL_w n
   have hfew:=vM (zcg n hn36)
   have hbe : (smL n).bears = 8 + (n : Int).tmod 9:=rfl
   generalize smL n = l at lw hfew hbe
   conv=>whnf
   obtain ⟨w1,wx,we,hwt⟩:=G.weights l lw
   obtain ⟨s1,sx,se,hsl,hsh⟩:=G.share l lw n
   obtain ⟨d,de,hdv⟩:=G.divisor l lw s1 sx hsl
   obtain ⟨c1,cx,cw,ce,hbs⟩:=G.best l lw 1
   have ha:=fun n2 lo=>L.asked l lw.w hfew c1 cx n2 lo ⟨l.bears - (n : Int).tmod 2,w1,wx⟩ ((n : Int).tmod 4) n s1 sx d
   rcases G.fewest l lw with ⟨a,e,hc⟩ | ⟨o,m,ho,hg⟩
   ·have ha:=ha true []
    repeat' first|((with_reducible first|apply XBr.tt|apply XBr.ff|refine XBr.y1 fun h=>?_|refine XBr.n1 fun h=>?_|refine XBr.beq (fun h=>?_) fun h=>?_|refine XInt.a ?_) <;> conv=>whnf) | with_reducible apply XBr.not|((with_reducible apply XBr.dec) <;> (intro h;first|(exfalso;omega)|((try simp only [List.length_map] at h);first|(exfalso;omega)|(conv=>whnf))))|((with_reducible refine zj.mk ?_ ?_);(first | omega | rfl | decide|exact ⟨rfl,by decide,rfl⟩|exact zz _|exact zp _|exact zq _|(unfold Room;constructor <;> ((try simp) <;> omega))|exact ⟨rfl,by simp only [List.length_map],by unfold Room;constructor <;> ((try simp) <;> omega)⟩|exact ⟨by omega,by omega,by unfold Room;constructor <;> ((try simp) <;> omega)⟩);conv=>whnf)|((first|refine za.ret hc ?_|refine za.ret hwt ?_|refine za.ret hsh ?_|refine za.ret hdv ?_|refine za.ret hbs ?_|refine za.ret ha ?_);conv=>whnf)|fail
    all_goals first|exact zw.go (n + 1) _ (by omega) (by omega) rfl ⟨rfl,trivial⟩|exact absurd (show (1 : Int) < ((List.length ([] : List AV) : Nat) : Int) by assumption) (by decide)
   ·have il : ∀ z : List Int,(ints z).length = z.length:=fun z=>List.length_map _
    have e6:=il o
    by_cases h3 : 1 < o.length /\ (n : Int).tmod 3 = 0
    ·have bo:=tmI (x:=n) (k:=(o.length : Int)) (by omega) (by omega)
     have ha1:=ha false (o.set ((n : Int).tmod (o.length : Int)).toNat ((n : Int).tmod 4))
     repeat' first|((with_reducible first|apply XBr.tt|refine XBr.y1 fun h=>?_|refine XBr.n1 fun h=>?_|refine XBr.beq (fun h=>?_) fun h=>?_|refine XInt.a ?_) <;> conv=>whnf) | with_reducible apply XBr.not|((with_reducible apply XBr.dec) <;> (intro h;first|(exfalso;omega)|((try simp only [List.length_map] at h);first|(exfalso;omega)|(conv=>whnf))))|((with_reducible refine zj.mk ?_ ?_);(first | omega | rfl | decide|exact ⟨rfl,by decide,rfl⟩|exact zz _|exact zp _|exact zq _|(unfold Room;constructor <;> ((try simp) <;> omega))|exact ⟨rfl,by simp only [List.length_map],by unfold Room;constructor <;> ((try simp) <;> omega)⟩|exact ⟨by omega,by omega,by unfold Room;constructor <;> ((try simp) <;> omega)⟩);conv=>whnf)|((first|refine za.giveInts3 4 [.dead,.dead,.dead,.dead,.grow 3 false (ints o)] rfl rfl hg ?_|refine zj.mk ⟨il o,rfl,bo.1,bo.2⟩ ?_|refine XPut.map (f:=fun z=>AV.int .i64 z) (xs:=o) _ rfl rfl (by omega) ?_|refine za.ret hwt ?_|refine za.ret hsh ?_|refine za.ret hdv ?_|refine za.ret hbs ?_|refine za.lend ha1 (.cons (.low (show (ldA l).low 0 = true from ldL _)) (.cons (.low (lowI _)) (.cons (Froz.grow (i:=4) rfl ((il _).trans List.length_set) (lowI _)) (.cons (.low (show (pcA ⟨l.bears - (n : Int).tmod 2,w1,wx⟩).low 0 = true from pcL _)) (.cons (.low rfl) (.cons (.low rfl) (.cons (.low (lowI _)) (.cons (.low rfl) .nil)))))))) rfl ?_);conv=>whnf)|fail
     all_goals exact zw.go (n + 1) _ (by omega) (by omega) rfl ⟨rfl,trivial⟩
    ·have ha1:=ha false o
     repeat' first|((with_reducible first|apply XBr.tt|apply XBr.ff|refine XBr.y1 fun h=>?_|refine XBr.n1 fun h=>?_|refine XBr.beq (fun h=>?_) fun h=>?_|refine XInt.a ?_) <;> conv=>whnf) | with_reducible apply XBr.not|((with_reducible apply XBr.dec) <;> (intro h;first|(exfalso;omega)|((try simp only [List.length_map] at h);first|(exfalso;omega)|(conv=>whnf))))|((with_reducible refine zj.mk ?_ ?_);(first | omega | rfl | decide|exact ⟨rfl,by decide,rfl⟩|exact zz _|exact zp _|exact zq _|(unfold Room;constructor <;> ((try simp) <;> omega))|exact ⟨rfl,by simp only [List.length_map],by unfold Room;constructor <;> ((try simp) <;> omega)⟩|exact ⟨by omega,by omega,by unfold Room;constructor <;> ((try simp) <;> omega)⟩);conv=>whnf)|((first|refine za.giveInts3 4 [.dead,.dead,.dead,.dead,.grow 3 false (ints o)] rfl rfl hg ?_|refine za.ret hwt ?_|refine za.ret hsh ?_|refine za.ret hdv ?_|refine za.ret hbs ?_|refine za.lend ha1 (.cons (.low (show (ldA l).low 0 = true from ldL _)) (.cons (.low (lowI _)) (.cons (Froz.grow (i:=4) rfl (il _) (lowI _)) (.cons (.low (show (pcA ⟨l.bears - (n : Int).tmod 2,w1,wx⟩).low 0 = true from pcL _)) (.cons (.low rfl) (.cons (.low rfl) (.cons (.low (lowI _)) (.cons (.low rfl) .nil)))))))) rfl ?_);conv=>whnf)|fail
     all_goals first|exact zw.go (n + 1) _ (by omega) (by omega) rfl ⟨rfl,trivial⟩|(exfalso;omega)
  ·refine Walk.thenKeep ?_
   refine Walk.loopK zb [] [(18,_),(19,_),(156,_),(167,_)] ⟨rfl,rfl,rfl,rfl,trivial⟩ (fun j : Nat=>(j : Int) <= (n : Int).tmod 6) (fun j=>[(168,natA j)]) (fun j=>[.cells [.int .i64 (8 + (n : Int).tmod 9),.int .i64 ((n : Int).tmod 4 * 15),.gr 1 j,.gr 2 0,.gr 3 0],.grow 36 (rowN (skN n) j).isEmpty ((rowN (skN n) j).map skA),.grow 31 true [],.grow 31 true []]) (fun j=>((n : Int).tmod 6).toNat - j) 0 (by omega) rfl ⟨rfl,trivial⟩ ?_
   intro j hj
   have hx1:=kF (skN n) j
   have hsk : skA (skN n j) = .agg [.int .i64 (1 + ((n : Int) * ((j : Int) + 3)).tmod 9),.int .i64 (((n : Int).tdiv ((j : Int) + 1)).tmod 4)]:=rfl
   have hr1 : ((rowN (skN n) j).map skA).length = j:=by rw [List.length_map,zH]
   have hrw:=zH (skN n) j
   have hp0 : 0 <= (n : Int) * ((j : Int) + 3):=Int.mul_nonneg (by omega) (by omega)
   have hp1 : (n : Int) * ((j : Int) + 3) <= 36 * 9:=Int.mul_le_mul (by omega) (by omega) (by omega) (by omega)
   have hp2:=tmI (x:=(n : Int) * ((j : Int) + 3)) (k:=9) hp0 (by omega)
   have hq0:=tdI (x:=n) (k:=(j : Int) + 1) (by omega) (by omega)
   have hq1:=tmI (x:=(n : Int).tdiv ((j : Int) + 1)) (k:=4) hq0.1 (by omega)
   conv=>whnf
   by_cases hlt : (j : Int) < (n : Int).tmod 6
   ·skip
    repeat' ((with_reducible apply XBr.dec) <;> (intro h;first|(exfalso;omega)|((try simp only [List.length_map] at h);first|(exfalso;omega)|(conv=>whnf))))
    apply Walk.drawX zb zk [] [15,17] (hsC [_,_,_]) [_,_,_,_,_,_,_,_,_,_,_,_,_,_,_,_,_,_] (zaO (by kernel_rfl)) rfl
    ·skip
     repeat' first|((with_reducible first|refine XInt.a ?_|apply Chk.go|apply ChkA.go);conv=>whnf)|(with_reducible first|apply XAnd.mk|exact trivial)|((with_reducible refine zj.mk ?_ ?_);(first | omega | rfl | decide|exact ⟨rfl,by decide,rfl⟩|exact zz _|exact zp _|exact zq _|(unfold Room;constructor <;> ((try simp) <;> omega))|exact ⟨rfl,by simp only [List.length_map],by unfold Room;constructor <;> ((try simp) <;> omega)⟩|exact ⟨by omega,by omega,by unfold Room;constructor <;> ((try simp) <;> omega)⟩);conv=>whnf)|(exact zg.mk rfl rfl)|fail
    ·skip
     repeat' first|((with_reducible first|refine XInt.a ?_|apply Chk.go|apply ChkF.go|apply ChkB.go);conv=>whnf)|(with_reducible first|apply XAnd.mk|exact trivial)|((with_reducible refine zj.mk ?_ ?_);(first | omega | rfl | decide|exact ⟨rfl,by decide,rfl⟩|exact zz _|exact zp _|exact zq _|(unfold Room;constructor <;> ((try simp) <;> omega))|exact ⟨rfl,by simp only [List.length_map],by unfold Room;constructor <;> ((try simp) <;> omega)⟩|exact ⟨by omega,by omega,by unfold Room;constructor <;> ((try simp) <;> omega)⟩);conv=>whnf)|(exact zg.mk rfl rfl)|fail
    conv=>whnf
    repeat' ((with_reducible refine XInt.a ?_);conv=>whnf)
    refine zh.go (j + 1) (by omega) (by omega) ?_ ⟨rfl,rfl,rfl,rfl,rfl,trivial⟩
    rw [hx1,yu,List.map_append];rfl
   obtain rfl : j = n % 6:=by omega
   conv=>whnf
   clear hx1 hsk hr1 hrw hp0 hp1 hp2 hq0 hq1
   repeat' ((with_reducible apply XBr.dec) <;> (intro h;first|(exfalso;omega)|((try simp only [List.length_map] at h);first|(exfalso;omega)|(conv=>whnf))))
   have hsz : smG n (n % 6) 0 0 = smL n:=by unfold smL apK wiK;rw [if_neg h16,if_neg h16]
   refine w8.go [] _ [(18,natA n),(19,.pim (ldC (smG n (n % 6) 0 0))),(156,natA n)] rfl (fun x hx=>by cases hx) ⟨⟨_,rfl,.same rfl⟩,⟨_,rfl,.all (Froz.ptr rfl (by intro v hv;simp only [ldC,List.mem_cons,List.not_mem_nil,or_false] at hv;rcases hv with rfl | rfl | rfl | rfl | rfl <;> rfl) (.cons (.low rfl) (.cons (.low rfl) (.cons (Froz.grow rfl ((List.length_map _).trans (zH _ _)) (yU _)) (.cons (Froz.grow rfl rfl rfl) (.cons (Froz.grow rfl rfl rfl) .nil))))))⟩,⟨_,rfl,.same rfl⟩,trivial⟩ ?_
   refine kY ?_
   rw [hsz]
   have lw:=smL_w n
   have hfew:=vM (zcg n hn36)
   have hbe : (smL n).bears = 8 + (n : Int).tmod 9:=rfl
   have hsl : (smL n).sacks.length = n % 6:=zH _ _
   clear hsz
   generalize smL n = l at lw hfew hbe hsl
   have e5 : ((l.sacks.map skA).length : Int) = (n % 6 : Nat):=by rw [List.length_map,hsl]
   clear hsl
   conv=>whnf
   obtain ⟨w1,wx,we,hwt⟩:=G.weights l lw
   obtain ⟨s1,sx,se,hsl,hsh⟩:=G.share l lw n
   obtain ⟨d,de,hdv⟩:=G.divisor l lw s1 sx hsl
   obtain ⟨c1,cx,cw,ce,hbs⟩:=G.best l lw 1
   have ha:=fun n2 lo=>L.asked l lw.w hfew c1 cx n2 lo ⟨l.bears - (n : Int).tmod 2,w1,wx⟩ ((n : Int).tmod 4) n s1 sx d
   rcases G.fewest l lw with ⟨a,e,hc⟩ | ⟨o,m,ho,hg⟩
   ·have ha:=ha true []
    repeat' first|((with_reducible first|apply XBr.tt|apply XBr.ff|refine XBr.y1 fun h=>?_|refine XBr.n1 fun h=>?_|refine XBr.beq (fun h=>?_) fun h=>?_|refine XInt.a ?_) <;> conv=>whnf) | with_reducible apply XBr.not|((with_reducible apply XBr.dec) <;> (intro h;first|(exfalso;omega)|((try simp only [List.length_map] at h);first|(exfalso;omega)|(conv=>whnf))))|((with_reducible refine zj.mk ?_ ?_);(first | omega | rfl | decide|exact ⟨rfl,by decide,rfl⟩|exact zz _|exact zp _|exact zq _|(unfold Room;constructor <;> ((try simp) <;> omega))|exact ⟨rfl,by simp only [List.length_map],by unfold Room;constructor <;> ((try simp) <;> omega)⟩|exact ⟨by omega,by omega,by unfold Room;constructor <;> ((try simp) <;> omega)⟩);conv=>whnf)|((first|refine za.ret hc ?_|refine za.ret hwt ?_|refine za.ret hsh ?_|refine za.ret hdv ?_|refine za.ret hbs ?_|refine za.ret ha ?_);conv=>whnf)|fail
    all_goals first|exact zw.go (n + 1) _ (by omega) (by omega) rfl ⟨rfl,trivial⟩|exact absurd (show (1 : Int) < ((List.length ([] : List AV) : Nat) : Int) by assumption) (by decide)
   ·have il : ∀ z : List Int,(ints z).length = z.length:=fun z=>List.length_map _
    have e6:=il o
    by_cases h3 : 1 < o.length /\ (n : Int).tmod 3 = 0
    ·have bo:=tmI (x:=n) (k:=(o.length : Int)) (by omega) (by omega)
     have ha1:=ha false (o.set ((n : Int).tmod (o.length : Int)).toNat ((n : Int).tmod 4))
     repeat' ((with_reducible apply XBr.dec) <;> (intro h;first|(exfalso;omega)|((try simp only [List.length_map] at h);first|(exfalso;omega)|(conv=>whnf))))
     all_goals exact zw.go (n + 1) _ (by omega) (by omega) rfl ⟨rfl,trivial⟩
    ·have ha1:=ha false o
     repeat' first|((with_reducible first|apply XBr.tt|apply XBr.ff|refine XInt.a ?_);conv=>whnf) | with_reducible apply XBr.not|((with_reducible apply XBr.dec) <;> (intro h;first|(exfalso;omega)|((try simp only [List.length_map] at h);first|(exfalso;omega)|(conv=>whnf))))|((with_reducible refine zj.mk ?_ ?_);(first | omega | rfl | decide|exact ⟨rfl,by decide,rfl⟩|exact zz _|exact zp _|exact zq _|(unfold Room;constructor <;> ((try simp) <;> omega))|exact ⟨rfl,by simp only [List.length_map],by unfold Room;constructor <;> ((try simp) <;> omega)⟩|exact ⟨by omega,by omega,by unfold Room;constructor <;> ((try simp) <;> omega)⟩);conv=>whnf)|((first|refine za.giveInts3 4 [.dead,.dead,.dead,.dead,.grow 3 false (ints o)] rfl rfl hg ?_|refine za.ret hwt ?_|refine za.ret hsh ?_|refine za.ret hdv ?_|refine za.ret hbs ?_|refine za.lend ha1 (.cons (.low (show (ldA l).low 0 = true from ldL _)) (.cons (.low (lowI _)) (.cons (Froz.grow (i:=4) rfl (il _) (lowI _)) (.cons (.low (show (pcA ⟨l.bears - (n : Int).tmod 2,w1,wx⟩).low 0 = true from pcL _)) (.cons (.low rfl) (.cons (.low rfl) (.cons (.low (lowI _)) (.cons (.low rfl) .nil)))))))) rfl ?_);conv=>whnf)|fail
     all_goals first|exact zw.go (n + 1) _ (by omega) (by omega) rfl ⟨rfl,trivial⟩|(exfalso;omega)
 ·obtain rfl : n = 36:=by omega
  repeat' ((with_reducible apply XBr.dec) <;> (intro h;first|(exfalso;omega)|((try simp only [List.length_map] at h);first|(exfalso;omega)|(conv=>whnf))))
  refine w8.go [] _ [] rfl (fun x hx=>by cases hx) trivial ?_
  refine kY ?_
  exact ssMany L
end GA
end
section
namespace GA
open Go Go.RowKit Go.Proofs
theorem natRen {ρ : Nat -> Nat} (t : TypeId) (nl : Bool) (l : List Nat) : (Blk.grow t nl (nats l)).ren ρ = .grow t nl (nats l):=by simp only [Blk.ren,wq (lowN _)]
set_option maxHeartbeats 2000000 in
theorem fewest_g (l : Ld) (o : LdW l) (hc : zi l = 0) (h9 : ¬ 9 < ye (zf l)) : kW Tryz.prog 7 [ldA l] (.tup [.gr 0 l.sacks.length,natA (ye (zf l)),.int .i64 0]) [.grow 3 false (nats (yq (zf l) (ye (zf l)) (ye (zf l))).out)]:=by
 obtain ⟨M,hM⟩ : ∃ M,M = ye (zf l):=⟨_,rfl⟩
 rw [<- hM] at h9 ⊢
 have hw:=o.w
 have h1:=o.h1
 have h2:=o.h2
 have h3:=o.h3
 refine kW.body (T:=tab) (res:=[.tmp 2,.tmp 3,.tmp 4]) zb [] Tryz.func7 rfl (by kernel_rfl) Tryz.ntmps7 rfl (by simp only [List.length_cons,List.length_nil];decide) (by simp only [lowL,AV.low,ldL];rfl) rfl (fun x hx=>by simp only [List.mem_cons,List.not_mem_nil,or_false] at hx;subst hx;exact lowN _) ?_;conv=>whnf
 refine za.ret (k9 l hw h1 h2 h3) ?_
 unfold wY
 rw [if_pos hc]
 have ok:=(zB l).1 hc
 have dok:=yG ok
 have hn : (zf l).l = l:=rfl
 have hall : allD (zf l) < 512:=by have:=pow9 ok.n;show 2 ^ l.sacks.length - 1 < 512;omega
 conv=>whnf
 repeat' ((with_reducible first|refine XBr.y2 fun h=>?_|refine XBr.n2 fun h=>?_|refine XBr.bne (fun h=>?_) fun h=>?_) <;> conv=>whnf)
 refine za.inl (T:=tab) (res:=[.cell 2 70]) zb [] Tryz.func27 rfl (by kernel_rfl) Tryz.ntmps27 rfl (by simp only [List.length_append,List.length_cons,List.length_nil];decide) ?_;conv=>whnf
 skip
 have hof:=of_c _ dok 512 (allD (zf l)) [(0,0)] hall hall MOk.zero
 have hle:=(ji (zf l) 512 (allD (zf l)) _ MOk.zero).1
 have h0:=zae (zf l)
 generalize hq : ofM (zf l) 512 (allD (zf l)) [(0,0)] = q at hle
 apply Walk.drawX zb zk [] [4,5,6] (hsW _ [id,fun H=>H.set 1 (.map (esA q.2)),fun H=>H ++ [.cells [.int .i64 0]],fun H=>(H.set 1 (.map (esA q.2))) ++ [.cells [.int .i64 0]],id,id,id,fun H=>(H.set 1 (.map (esA q.2))) ++ [.cells [natA q.1]]])
  [_,_,_,natA (allD (zf l)),natA q.1,_,_] (by kernel_rfl) rfl
 ·skip
  repeat' first|((with_reducible first|apply Chk.go|apply ChkA.go);conv=>whnf)|(with_reducible first|apply XAnd.mk|exact trivial)|(exact zg.mk rfl rfl)|((first|(refine za.ret (fb (zf l) ok.n) ?_)|((refine za.of hof 1 rfl rfl rfl ?_);rw [hq]));conv=>whnf)|fail
 ·skip
  repeat' first|((with_reducible first|apply Chk.go|apply ChkF.go|apply ChkB.go);conv=>whnf)|(with_reducible first|apply XAnd.mk|exact trivial)|(exact zg.mk rfl rfl)|((first|(refine za.ret (fb (zf l) ok.n) ?_)|((refine za.of hof 1 rfl rfl rfl ?_);rw [hq]));conv=>whnf)|fail
 ·conv=>whnf
  have hmq : M = q.1:=by rw [hM];unfold ye;rw [hq]
  have hI0 : yq (zf l) q.1 0 = ⟨allD (zf l),q.2,List.replicate l.sacks.length 0⟩:=by
   show zai (zf l) = _;unfold zai;rw [hq,hn]
  have ha : ∀ x,za Tryz.prog 28 [.pim (zy (zf l))] x = za Tryz.prog 28 [.pim (zy (zf l))] x:=fun _=>rfl
  have hallc:=fb (zf l) ok.n
  clear h0 hq hM
  obtain rfl:=hmq
  generalize hd : zf l = d at *
  clear hd
  have hdn : d.l.sacks.length = l.sacks.length:=by rw [hn]
  repeat' first|((with_reducible first|refine XBr.y fun h=>?_|refine XBr.n fun h=>?_|refine XBr.dec (fun h=>?_) fun h=>?_) <;> conv=>whnf)|(refine zj.a ?_;conv=>whnf)|fail
  ·rename_i h
   refine za.ret hallc ?_
   conv=>whnf
   refine Walk.loopM zb [] (fun n : Nat=>n <= q.1) (fun n=>[(5,.pim (zy d)),(7,.ptr 4 0),(8,.ptr 5 0),(9,.gr 6 l.sacks.length),(10,.ptr 7 0),(40,natA q.1),(41,natA n)])
    (fun n=>[.cells [ofC d 1],.map (esA (yq d q.1 n).m),.cells [.mp 1],.cells [ofC d 1],.cells [ofC d 1],.cells [natA q.1],.grow 3 false (nats (yq d q.1 n).out),.cells [natA (yq d q.1 n).left]])
    (fun n=>q.1 - n) 0 8 (by omega) ?_ rfl ⟨rfl,rfl,rfl,by simp only [List.length_map,Int.toNat_natCast];rfl,rfl,rfl,rfl,trivial⟩ ?_
   ·rw [hI0]
    have e1 : (allD d : Nat) = 2 ^ d.l.sacks.length - 1:=rfl
    simp only [nats,List.map_replicate,e1,List.length_map,Int.toNat_natCast];rfl
   ·intro n hnq
    have sok:=qv d q.1 n
    have hnext:=qc d q.1 n
    generalize hs : yq d q.1 n = s at sok hnext
    obtain ⟨left,m0,out0⟩:=s
    obtain ⟨k1,k2,k3⟩:=sok
    dsimp only at k1 k2 k3
    have hlen9:=ok.n
    conv=>whnf
    repeat' ((with_reducible first|refine XBr.y fun h=>?_|refine XBr.n fun h=>?_|refine XBr.dec (fun h=>?_) fun h=>?_) <;> conv=>whnf)
    ·refine za.ret (zcJ d left) ?_
     conv=>whnf
     refine Walk.range (own:=[]) zb [(5,.pim (zy d)),(7,.ptr 4 0),(8,.ptr 5 0),(10,.ptr 7 0),(11,.ptr 8 0),(12,.ptr 9 0)] rfl ⟨rfl,rfl,rfl,rfl,rfl,rfl,trivial⟩ ?_
     intro fn
     refine zac d dok left 11 (by omega) _ _ ?_
     refine jk.go (S:=Nat × List (Int × Nat)) (fun H s=>(H.set 1 (.map (esA s.2))).set 9 (.cells [natA s.1])) (yp d q.1 n left) (fun s cs=>Sub s.1 left /\ MOk s.2 /\ ∀ c ∈ cs,Sub c left) (0,m0) rfl ?_ ⟨Sub.zero _,k2,fun c hc=>(jC d hc).1⟩ ?_
     ·rintro ⟨b,m'⟩ c cs ⟨g0,g1,g2⟩
      dsimp only at g0 g1 g2 ⊢
      have gc:=g2 c List.mem_cons_self
      have gc2:=gc.le
      have g02:=g0.le
      obtain ⟨qq,hqq⟩ : ∃ x,ofM d 512 (diff left c) m' = x:=⟨_,rfl⟩
      have hdl:=jW left c
      have hof2:=of_c d dok 512 (diff left c) m' (by omega) (by omega) g1
      obtain ⟨q1,q2⟩:=ji d 512 (diff left c) m' g1
      rw [hqq] at q1 q2
      refine ⟨wH.go (own:=[]) zb rfl rfl (by decide) ?_,?_⟩
      ·intro ρ
       have e1 : iandn .i64 (left : Int) (c : Int) = ((diff left c : Nat) : Int):=ke (by omega) (by omega)
       have e2 : ixor .i64 (c : Int) (b : Int) = ((c ^^^ b : Nat) : Int):=zd9 (by omega) (by omega)
       have hx9 : c ^^^ b < 512:=Nat.xor_lt_two_pow (n:=9) (by omega) (by omega)
       have e3:=fH hx9
       have hlb:=zc5 (c ^^^ b)
       have e4 : iand .i64 (c : Int) ((lowb (c ^^^ b) : Nat) : Int) = ((c &&& lowb (c ^^^ b) : Nat) : Int):=w7 (by omega) (by omega)
       have hand : c &&& lowb (c ^^^ b) <= c:=Nat.and_le_left
       conv=>whnf
       by_cases hA : qq.1 + n + 1 = q.1
       ·have eA : ((qq.1 : Int) == (q.1 : Int) - (n : Int) - 1) = true:=by rw [beq_iff_eq];omega
        by_cases hB : b = 0
        ·have eB : ((b : Int) == 0) = true:=by rw [beq_iff_eq];omega
         have hp : yp d q.1 n left (b,m') c = (c,qq.2):=by simp only [yp,hqq];rw [if_pos ⟨hA,.inl hB⟩]
         apply Walk.drawX zb zk [] [5] (hsV _ [id,fun H=>H.set 1 (.map (esA qq.2))])
          [_,_,_,_,natA (diff left c),natA qq.1,_,_,_,_,.bool true,_,_,.bool true,_,_,_,_,_,_,_,_,_,_] (by kernel_rfl) rfl
         ·skip
          repeat' first|((with_reducible first|apply XBr.tt|refine XInt.a ?_|apply Chk.go|apply ChkA.go);conv=>whnf)|(with_reducible first|apply XAnd.mk|exact trivial)|(exact zg.mk rfl rfl)|(exact zg.mk (congrArg (AV.int .i64) e1) rfl)|(((refine za.of hof2 1 rfl rfl rfl ?_);rw [hqq]);conv=>whnf)|(exact zg.mk (congrArg AV.bool eA) rfl)|(exact zg.mk (congrArg AV.bool eB) rfl)|fail
         ·skip
          repeat' first|((with_reducible first|apply XBr.tt|refine XInt.a ?_|apply Chk.go|apply ChkF.go|apply ChkB.go);conv=>whnf)|(with_reducible first|apply XAnd.mk|exact trivial)|(exact zg.mk rfl rfl)|(exact zg.mk (congrArg AV.bool eB) rfl)|fail
         ·rw [hp]
          conv=>whnf
          repeat' ((with_reducible apply XBr.tt);conv=>whnf)
          exact ⟨rfl,rfl⟩
        ·have eB : ((b : Int) == 0) = false:=by rw [beq_eq_false_iff_ne];omega
         apply Walk.drawX zb zk [] [5] (hsV _ [id,fun H=>H.set 1 (.map (esA qq.2))])
          [_,_,_,_,natA (diff left c),natA qq.1,_,_,_,_,.bool true,_,_,.bool false,_,_,natA (c ^^^ b),natA (c ^^^ b),_,natA (lowb (c ^^^ b)),natA (c &&& lowb (c ^^^ b)),_,_,_] (by kernel_rfl) rfl
         ·skip
          repeat' first|((with_reducible first|apply XBr.tt|apply XBr.ff|refine XInt.a ?_|apply Chk.go|apply ChkA.go);conv=>whnf)|(with_reducible first|apply XAnd.mk|exact trivial)|(exact zg.mk rfl rfl)|(exact zg.mk (congrArg (AV.int .i64) e1) rfl)|(((refine za.of hof2 1 rfl rfl rfl ?_);rw [hqq]);conv=>whnf)|(exact zg.mk (congrArg AV.bool eA) rfl)|(exact zg.mk (congrArg AV.bool eB) rfl)|(exact zg.mk (congrArg (AV.int .i64) e2) rfl)|(exact zg.mk (congrArg (AV.int .i64) e3) rfl)|(exact zg.mk (congrArg (AV.int .i64) e4) rfl)|fail
         ·skip
          repeat' first|((with_reducible first|apply XBr.tt|apply XBr.ff|refine XInt.a ?_|apply Chk.go|apply ChkF.go|apply ChkB.go);conv=>whnf)|(with_reducible first|apply XAnd.mk|exact trivial)|(exact zg.mk rfl rfl)|(exact zg.mk (congrArg AV.bool eB) rfl)|(exact zg.mk (congrArg (AV.int .i64) e2) rfl)|(exact zg.mk (congrArg (AV.int .i64) e3) rfl)|(exact zg.mk (congrArg (AV.int .i64) e4) rfl)|fail
         ·conv=>whnf
          repeat' ((with_reducible first|refine XBr.y2 fun h=>?_|refine XBr.n2 fun h=>?_|refine XBr.bne (fun h=>?_) fun h=>?_) <;> conv=>whnf)
          ·have hp : yp d q.1 n left (b,m') c = (c,qq.2):=by simp only [yp,hqq];rw [if_pos ⟨hA,.inr (by omega)⟩]
           rw [hp];exact ⟨rfl,rfl⟩
          ·have hp : yp d q.1 n left (b,m') c = (b,qq.2):=by simp only [yp,hqq];rw [if_neg (by omega)]
           rw [hp];exact ⟨rfl,rfl⟩
       ·have eA : ((qq.1 : Int) == (q.1 : Int) - (n : Int) - 1) = false:=by rw [beq_eq_false_iff_ne];omega
        have hp : yp d q.1 n left (b,m') c = (b,qq.2):=by simp only [yp,hqq];rw [if_neg (by omega)]
        apply Walk.drawX zb zk [] [5] (hsV _ [id,fun H=>H.set 1 (.map (esA qq.2))])
         [_,_,_,_,natA (diff left c),natA qq.1,_,_,_,_,.bool false,_,_,_,_,_,_,_,_,_,_,_,_,_] (by kernel_rfl) rfl
        ·skip
         repeat' first|((with_reducible first|apply XBr.ff|refine XInt.a ?_|apply Chk.go|apply ChkA.go);conv=>whnf)|(with_reducible first|apply XAnd.mk|exact trivial)|(exact zg.mk rfl rfl)|(exact zg.mk (congrArg (AV.int .i64) e1) rfl)|(((refine za.of hof2 1 rfl rfl rfl ?_);rw [hqq]);conv=>whnf)|(exact zg.mk (congrArg AV.bool eA) rfl)|fail
        ·skip
         repeat' first|((with_reducible first|apply XBr.ff|refine XInt.a ?_|apply Chk.go|apply ChkF.go|apply ChkB.go);conv=>whnf)|(with_reducible first|apply XAnd.mk|exact trivial)|(exact zg.mk rfl rfl)|fail
        ·rw [hp]
         conv=>whnf
         repeat' ((with_reducible apply XBr.ff);conv=>whnf)
         exact ⟨rfl,rfl⟩
      ·refine ⟨?_,by simp only [yp,hqq];exact q2,fun c hc=>g2 c (List.mem_cons_of_mem _ hc)⟩
       simp only [yp];split
       ·exact gc
       ·exact g0
     ·have hbest:=zcQ d q.1 n left m0 k2
      have hbd : (yD d left).foldl (yp d q.1 n left) (0,m0) = jP d q.1 n left m0:=rfl
      rw [hbd]
      have hst : yq d q.1 (n + 1) = ⟨diff left (jP d q.1 n left m0).1,(jP d q.1 n left m0).2,qh n out0 (bits (jP d q.1 n left m0).1)⟩:=hnext
      generalize jP d q.1 n left m0 = bb at hbest hst
      obtain ⟨b,m2⟩:=bb
      dsimp only at hbest hst ⊢
      have hb2:=hbest.2.le
      conv=>whnf
      skip
      refine za.ret (wK b (by omega)) ?_
      conv=>whnf
      have hbb : ∀ x ∈ bits b,0 <= x /\ x < (d.l.sacks.length : Int):=fun x hx=>by
       have hp2 : b < 2 ^ d.l.sacks.length:=by have:=Nat.two_pow_pos d.l.sacks.length;show b < _;unfold allD at k1;omega
       have:=ki 62 0 b d.l.sacks.length hp2 x hx;omega
      have hbl:=yw b
      refine Walk.loop zb [] (fun j : Nat=>j <= (bits b).length) (fun j=>[(5,.pim (zy d)),(7,.ptr 4 0),(8,.ptr 5 0),(9,.gr 6 l.sacks.length),(10,.ptr 7 0),(11,.ptr 8 0),(12,.ptr 9 0),(40,natA q.1),(41,natA n),(77,slA (bits b)),(78,natA (bits b).length),(79,natA j)])
       (fun j=>[.cells [ofC d 1],.map (esA m2),.cells [.mp 1],.cells [ofC d 1],.cells [ofC d 1],.cells [natA q.1],.grow 3 false (nats (qh n out0 ((bits b).take j))),.cells [natA left],.cells [natA n],.cells [natA b],.raw (.deferred (some [])),.dead])
       (fun j=>(bits b).length - j) 0 (by omega) rfl ⟨rfl,rfl,rfl,rfl,rfl,rfl,rfl,rfl,rfl,rfl,by simp only [ints,List.length_map];rfl,rfl,trivial⟩ ?_
      intro j hj
      have hfl:=vD n ((bits b).take j) out0
      conv=>whnf
      repeat' first|((with_reducible first|refine XBr.y fun h=>?_|refine XBr.n fun h=>?_|refine XBr.dec (fun h=>?_) fun h=>?_|refine XInt.a ?_) <;> conv=>whnf)|(refine XIx.a ?_;conv=>whnf)|fail
      ·rename_i hjl
       have hmem:=zu (xs:=bits b) (i:=j) (d:=default) (by omega)
       have hv:=hbb _ hmem
       refine zj.mk ⟨by rw [List.length_map,hfl,k3,hdn],rfl,by omega,by omega⟩ ?_
       conv=>whnf
       refine XPut.map n rfl (by rw [hfl,k3,hdn]) (by omega) ?_
       conv=>whnf
       repeat' ((with_reducible refine XInt.a ?_);conv=>whnf)
       refine zh.go (j + 1) (by omega) (by omega) ?_ ⟨rfl,rfl,rfl,rfl,rfl,rfl,rfl,rfl,rfl,rfl,rfl,rfl,trivial⟩
       rw [zS (by omega)]
       unfold qh
       rw [List.foldl_append];rfl
      ·rename_i hjl
       have hje : j = (bits b).length:=by omega
       subst hje
       refine qK.go (n + 1) [.cells [natA n],.cells [natA b],.raw (.deferred (some [])),.dead] (by omega) (by omega) ?_ ⟨rfl,rfl,rfl,rfl,rfl,rfl,rfl,trivial⟩ (Nat.le_refl _) ?_ ?_ ?_ ?_
       ·rw [hst,List.take_length]
        have e1 : iandn .i64 (left : Int) (b : Int) = ((diff left b : Nat) : Int):=ke (by omega) (by omega)
        simp only [List.cons_append,List.nil_append,natA,e1]
       ·intro x hx
        simp only [List.mem_cons,List.not_mem_nil,or_false] at hx
        rcases hx with rfl | rfl | rfl | rfl | rfl | rfl | rfl | rfl <;> first|exact fO _|exact lowN _ | rfl|(simp only [Blk.low,ofC,lowL,AV.low,yn,List.length_cons,List.length_nil];rfl)
       ·intro p hp
        simp only [List.mem_cons,List.not_mem_nil,or_false] at hp
        rcases hp with rfl | rfl | rfl | rfl | rfl | rfl | rfl <;> first | rfl|exact yn _
       ·simp
       ·intro i hi;simp at hi;subst hi;exact ⟨Nat.le_of_ble_eq_true rfl,rfl⟩
    ·have hne : n = q.1:=by omega
     subst hne
     rw [hs]
     apply Walk.drawX zb zk [] [] (hsK _) [_,_,_,_,_] (by kernel_rfl) rfl
     ·skip
      repeat' first|((with_reducible first|apply Chk.go|apply ChkA.go);conv=>whnf)|(with_reducible first|apply XAnd.mk|exact trivial)|(exact zg.mk rfl rfl)|fail
     ·skip
      repeat' first|((with_reducible first|apply ChkF.go|apply ChkB.go);conv=>whnf)|(with_reducible first|apply XAnd.mk|exact trivial)|fail
     ·conv=>whnf
      skip
      exact jK.mk' [6] rfl (by decide) ⟨congrArg some (natRen _ _ _).symm,trivial⟩ rfl
theorem skRen {ρ : Nat -> Nat} (t : TypeId) (nl : Bool) (l : List Sk) : (Blk.grow t nl (l.map skA)).ren ρ = .grow t nl (l.map skA):=by simp only [Blk.ren,wq (yU _)]
theorem five_g : kW Tryz.prog 4 [] (.agg [.int .i64 50,.int .i64 10,.gr 0 5,.sl true [],.sl true []]) [.grow 36 false (five.sacks.map skA)]:=by
 refine kW.body (T:=tab) (res:=[.cell 0 27]) zb [6] Tryz.func4 rfl (by kernel_rfl) Tryz.ntmps4 rfl (by simp only [List.length_cons,List.length_nil];decide) rfl rfl (fun x hx=>by simp only [List.mem_cons,List.not_mem_nil,or_false] at hx;subst hx;exact yU _) ?_;conv=>whnf
 repeat' (refine zj.a ?_;conv=>whnf)
 exact jK.mk' [1] rfl (by decide) ⟨(show some (Blk.grow 36 false (five.sacks.map skA)) = _ from congrArg some (skRen _ _ _).symm),trivial⟩ rfl
theorem givesS : GivesS where
 fewest l o:=by
  have hf:=vt l o.w o.h1 o.h2 o.h3
  unfold yQ at hf
  by_cases h0 : zi l = 0
  ·rw [if_pos h0] at hf
   by_cases h9 : 9 < ye (zf l)
   ·unfold kT at hf
    rw [if_pos h9] at hf
    exact .inl ⟨_,_,hf⟩
   ·have hg:=fewest_g l o h0 h9
    have hol:=zbO (zf l) (ye (zf l)) (ye (zf l))
    generalize yq (zf l) (ye (zf l)) (ye (zf l)) = S at hg hol
    generalize ye (zf l) = M at hg
    have hl : (S.out.map Int.ofNat).length = l.sacks.length:=by rw [List.length_map];exact hol
    refine .inr ⟨S.out.map Int.ofNat,M,hl,?_⟩
    rw [hl,<- natsI]
    exact hg
  ·rw [if_neg h0] at hf
   exact .inl ⟨_,_,hf⟩
 weights l o:=by
  have h:=gA l o
  unfold w6 at h
  split at h
  ·exact ⟨_,_,_,h⟩
  ·exact ⟨_,[],_,h⟩
 share l o n:=by
  have h:=zcE l n o
  unfold jL at h
  split at h
  ·rename_i hh
   have pk:=(kb (yA ((zB l).1 (by unfold zN at hh;split at hh <;> omega))) n.toNat).1
   exact ⟨_,_,_,by omega,h⟩
  ·exact ⟨_,[],_,by simp,h⟩
 divisor l o nl xs hx:=⟨_,_,zb1 l nl xs o hx⟩
 best l o c:=by
  have h:=bestX_c l c o
  split at h
  ·exact ⟨_,_,_,_,h⟩
  ·exact ⟨_,[],_,_,h⟩
end GA
end
section
namespace GA
open Go Go.RowKit Go.Proofs
def limA : AV:=.sl false (limS.map fun r=>.sl false (ints r))
theorem XGet.toV {els : List AV} {n e : Nat} {k : List AV -> Prop} (v : AV) (h1 : n = els.length) (h2 : e < n) (hv : els.getD e default = v) (h : k v.cells) : XGet els n e k:=⟨h1,h2,by rw [hv];exact h⟩
theorem ints_getD {W : List Int} {k : Nat} (h : k < W.length) : (ints W).getD (k : Int).toNat default = .int .i64 (W.getD k default):=by
 rw [Int.toNat_natCast]
 unfold ints
 rw [List.getD_eq_getElem?_getD,List.getElem?_map,List.getElem?_eq_getElem h,List.getD_eq_getElem?_getD,List.getElem?_eq_getElem h];rfl
theorem za.five {H : List Blk} {k : AV -> List Blk -> Prop} (hk : k (.agg [.int .i64 50,.int .i64 10,.gr H.length 5,.sl true [],.sl true []]) (H ++ [.grow 36 false (five.sacks.map skA)])) : za Tryz.prog 4 [] H k:=by
 refine za.give five_g ?_
 rw [List.map_cons,skRen,List.map_nil];exact hk
theorem za.askS (L : zbF) (l : Ld) (hw : l.nla = true -> l.apart = []) (hF : FewA l) (c lo : List Int) (p : Pr) (q pay : Int) (x : List Int) (d : Int × Int) {rs : List AV} {H : List Blk} {k : AV -> List Blk -> Prop}
  {r1 r2 r3 r4 r5 r6 r7 r8 : AV} (hr : rs = [r1,r2,r3,r4,r5,r6,r7,r8]) (f1 : Froz Tryz.prog H r1 (ldA l)) (f2 : Froz Tryz.prog H r2 (.sl false (ints c))) (f3 : Froz Tryz.prog H r3 (.sl false (ints lo))) (f4 : Froz Tryz.prog H r4 (pcA p)) (f5 : Froz Tryz.prog H r5 (.int .i64 q)) (f6 : Froz Tryz.prog H r6 (.int .i64 pay)) (f7 : Froz Tryz.prog H r7 (.sl false (ints x))) (f8 : Froz Tryz.prog H r8 (rtA d))
  (hk : k (.bool true) H) : za Tryz.prog 5 rs H k:=by
 subst hr
 exact za.lend (L.asked l hw hF false c false lo p q pay false x d) (.cons f1 (.cons f2 (.cons f3 (.cons f4 (.cons f5 (.cons f6 (.cons f7 (.cons f8 .nil)))))))) rfl hk
theorem y9 {H : List Blk} {i j m : Nat} (l : Ld) {t1 t2 t3 : TypeId} (h1 : lget H i = some (.grow t1 l.nls (l.sacks.map skA))) (h2 : lget H j = some (.grow t2 l.nla (l.apart.map prA))) (h3 : lget H m = some (.grow t3 l.nlw (l.wth.map prA))) :
  Froz Tryz.prog H (.agg [.int .i64 l.bears,.int .i64 l.shrink,.gr i l.sacks.length,.gr j l.apart.length,.gr m l.wth.length]) (ldA l):=
 Froz.agg (by intro v hv;simp only [ldC,List.mem_cons,List.not_mem_nil,or_false] at hv;rcases hv with rfl | rfl | rfl | rfl | rfl <;> rfl) (.cons (.low rfl) (.cons (.low rfl) (.cons (Froz.grow h1 (List.length_map _) (yU _)) (.cons (Froz.grow h2 (List.length_map _) (kg _)) (.cons (Froz.grow h3 (List.length_map _) (kg _)) .nil)))))
set_option maxHeartbeats 4000000 in
theorem zcA (L : zbF) (G : GivesS) : Comp Tryz.prog 3 [] (.bool true):=by
 refine Comp.bodyW (T:=tab) (res:=[.tmp 0]) zb [68,77,78,79,82,84,87,89] Tryz.func3 rfl (by kernel_rfl) Tryz.ntmps3 rfl (by simp only [List.length_cons,List.length_nil];decide) (by rfl) ?_
 refine Walk.step zb [] ?_
 conv=>whnf
 refine XGo.go zb [] ?_
 conv=>whnf
 /-
 refine Comp.body (T:=tab) (res:=[.tmp 0]) zb [68,77,78,79,82,84,87,89] Tryz.func3 rfl (by kernel_rfl) Tryz.ntmps3 rfl (by simp only [List.length_cons,List.length_nil];decide) (by rfl) ?_;conv=>whnf
 -/
 repeat' ((first|refine zj.a ?_|(with_reducible refine XGo.go zb [68,77,78,79,82,84,87,89] ?_));conv=>whnf)
 refine Walk.loopGKW [(61,limA),(62,.int .i64 (18 : Nat))] ⟨rfl,rfl,trivial⟩ (fun i : Nat=>i <= 18) (fun i=>[(63,natA i)]) (fun _=>[]) (fun i=>18 - i) 0 (Nat.zero_le _) rfl ⟨rfl,trivial⟩ ?_ (fun _ _=>Nat.le_refl _) ?_
 ·intro n _
  refine ⟨fun z hz=>(by cases hz),fun z hz=>?_⟩
  simp only [List.cons_append,List.nil_append,List.mem_cons,List.not_mem_nil,or_false] at hz
  rcases hz with rfl | rfl | rfl <;> rfl
 intro i hi
 refine Walk.step zb [] ?_
 conv=>whnf
 by_cases hi18 : i < 18
 ·have hll:=limS_len i hi18
  have hfl:=few_lim i
  have hil : ∀ l : List Int,(ints l).length = l.length:=fun l=>List.length_map _
  repeat' first|((first|refine XIx.nat (f:=fun r=>AV.sl false (ints r)) (xs:=limS) hi18 (fun _=>rfl) ?_|(refine zj.mk ⟨rfl,rfl,by unfold Room;rw [hil];constructor <;> omega⟩ ?_)|(refine zj.mk (show (_ :: _ :: ints (limS.getD i default)).length = _ by rw [List.length_cons,List.length_cons,hil];omega) ?_));conv=>whnf)|((with_reducible first|refine XBr.y fun h=>?_|refine XBr.n fun h=>?_|refine XBr.dec (fun h=>?_) fun h=>?_) <;> conv=>whnf)|((first|refine zj.a ?_|(with_reducible refine XGo.go zb [68,77,78,79,82,84,87,89] ?_));conv=>whnf)|fail
  obtain ⟨l,hl⟩ : ∃ l,l = limS.getD i default:=⟨_,rfl⟩
  rw [<- hl] at hll hfl ⊢
  clear hl
  obtain ⟨W,hW⟩ : ∃ W : List Int,W = 9223372036854775807 :: -9223372036854775808 :: l:=⟨_,rfl⟩
  have hWl : W.length = 2 + (ints l).length:=by rw [hW,List.length_cons,List.length_cons,hil];omega
  have hWm : 2 + (ints l).length <= 10:=by rw [hil];omega
  rw [<- hW] at hfl
  refine Walk.loopGKW [(2,natA i),(61,limA),(62,.int .i64 (18 : Nat)),(63,natA i),(70,.gr 0 (2 + (ints l).length)),(71,.int .i64 (2 + (ints l).length : Nat))] ⟨rfl,rfl,rfl,rfl,rfl,rfl,trivial⟩ (fun k : Nat=>k <= 2 + (ints l).length) (fun k=>[(72,natA k)]) (fun _=>[.grow 3 false (ints W)]) (fun k=>2 + (ints l).length - k) 0 (Nat.zero_le _) (by rw [hW];rfl) ⟨rfl,trivial⟩ ?_ (fun _ _=>Nat.le_refl _) ?_
  ·intro n _
   refine ⟨fun z hz=>?_,fun z hz=>?_⟩
   ·simp only [List.mem_cons,List.not_mem_nil,or_false] at hz
    subst hz;exact lowI _
   simp only [List.cons_append,List.nil_append,List.mem_cons,List.not_mem_nil,or_false] at hz
   rcases hz with rfl | rfl | rfl | rfl | rfl | rfl | rfl <;> first | rfl|(show decide (0 < 1) = true;rfl)
  generalize 2 + (ints l).length = wl at *
  intro k hk
  refine Walk.step zb [] ?_
  conv=>whnf
  by_cases hkw : k < wl
  ·have hgd:=ints_getD (W:=W) (k:=k) (by omega)
   have hfe:=hfl (W.getD k default) (zu (by omega))
   generalize W.getD k default = v at hgd hfe
   have hfew:=vM hfe
   repeat' first|((first|(refine zj.mk ⟨by rw [hil];exact hWl,rfl,by omega,by omega⟩ ?_)|(refine XGet.toV (.int .i64 v) (by rw [hil];exact hWl.symm) (by omega) hgd ?_)|refine za.five ?_|refine XArr.gp (by decide) (by decide) ?_);conv=>whnf)|((with_reducible first|refine XBr.y fun h=>?_|refine XBr.n fun h=>?_|refine XBr.dec (fun h=>?_) fun h=>?_|apply Chk.go|apply ChkA.go|apply ChkF.go|apply ChkB.go|apply XNext.mk) <;> conv=>whnf)|(refine zj.a ?_;conv=>whnf)|(with_reducible first|apply XAnd.mk|exact trivial)|(exact zg.mk rfl rfl)|(apply Walk.drawN (id:=11) zb zk [68,77,78,79,82,84,87,89] [] (hsU _) [_,_,_,_,_,_,_,_,_,_,_,_,_,_,_,_,_,_,_,_,_,_,_,_,_,_,_,_,_,_,_,_,_,_] (by kernel_rfl) rfl)|((with_reducible refine XGo.go zb [68,77,78,79,82,84,87,89] ?_);conv=>whnf)|fail
   have hq : i = 0 \/ i = 1 \/ i = 2 \/ i = 3 \/ i = 4 \/ i = 5 \/ i = 6 \/ i = 7 \/ i = 8 \/ i = 9 \/ i = 10 \/ i = 11 \/ i = 12 \/ i = 13 \/ i = 14 \/ i = 15 \/ i = 16 \/ i = 17:=by omega
   rcases hq with rfl | rfl | rfl | rfl | rfl | rfl | rfl | rfl | rfl | rfl | rfl | rfl | rfl | rfl | rfl | rfl | rfl | rfl
   ·skip
    refine XIx.mk (by decide) (by show _ < ((18 : Nat) : Int);decide) rfl ?_
    conv=>whnf
    repeat' ((with_reducible refine XGo.go zb [68,77,78,79,82,84,87,89] ?_);conv=>whnf)
    refine Walk.norm zb [] [(2,_),(6,_),(7,_),(8,_),(9,_),(10,_),(11,_),(12,_),(13,_),(14,_),(15,_),(16,_),(61,_),(62,_),(63,_),(70,_),(71,_),(72,_)] ⟨rfl,rfl,rfl,rfl,rfl,rfl,rfl,rfl,rfl,rfl,rfl,rfl,rfl,rfl,rfl,rfl,rfl,rfl,trivial⟩ ?_
    conv=>whnf
    repeat' first|((refine za.askS L (limL 0 v) (fun h=>absurd h Bool.false_ne_true) hfew [_,_] [_,_,_,_,_] ⟨_,false,[_,_,_,_,_]⟩ _ _ [_,_,_,_,_,_] (_,_) rfl (y9 (i:=1) (j:=7) (m:=8) (limL 0 v) rfl rfl rfl) (Froz.grow (i:=2) rfl rfl rfl) (Froz.grow (i:=3) rfl rfl rfl) (Froz.agg (by intro v hv;simp only [pcC,List.mem_cons,List.not_mem_nil,or_false] at hv;rcases hv with rfl | rfl <;> rfl) (.cons (.low rfl) (.cons (Froz.grow (i:=4) rfl rfl rfl) .nil))) (.low rfl) (.low rfl) (Froz.grow (i:=9) rfl rfl rfl) (.low rfl) ?_);conv=>whnf)|((with_reducible first|apply XBr.tt|apply XBr.ff|refine XBr.y fun h=>?_|refine XBr.n fun h=>?_|refine XBr.dec (fun h=>?_) fun h=>?_|refine XInt.a ?_) <;> conv=>whnf) | with_reducible apply XBr.not|((with_reducible refine XGo.go zb [68,77,78,79,82,84,87,89] ?_);conv=>whnf)|fail
    exact zw.go (k + 1) _ (by omega) (by omega) rfl ⟨rfl,rfl,rfl,rfl,rfl,rfl,rfl,trivial⟩
   ·skip
    refine XIx.mk (by decide) (by show _ < ((18 : Nat) : Int);decide) rfl ?_
    conv=>whnf
    repeat' ((with_reducible refine XGo.go zb [68,77,78,79,82,84,87,89] ?_);conv=>whnf)
    refine Walk.norm zb [] [(2,_),(6,_),(7,_),(8,_),(9,_),(10,_),(11,_),(12,_),(13,_),(14,_),(15,_),(16,_),(61,_),(62,_),(63,_),(70,_),(71,_),(72,_)] ⟨rfl,rfl,rfl,rfl,rfl,rfl,rfl,rfl,rfl,rfl,rfl,rfl,rfl,rfl,rfl,rfl,rfl,rfl,trivial⟩ ?_
    conv=>whnf
    repeat' first|((refine za.askS L (limL 1 v) (fun h=>absurd h Bool.false_ne_true) hfew [_,_] [_,_,_,_,_] ⟨_,false,[_,_,_,_,_]⟩ _ _ [_,_,_,_,_,_] (_,_) rfl (y9 (i:=1) (j:=7) (m:=8) (limL 1 v) rfl rfl rfl) (Froz.grow (i:=2) rfl rfl rfl) (Froz.grow (i:=3) rfl rfl rfl) (Froz.agg (by intro v hv;simp only [pcC,List.mem_cons,List.not_mem_nil,or_false] at hv;rcases hv with rfl | rfl <;> rfl) (.cons (.low rfl) (.cons (Froz.grow (i:=4) rfl rfl rfl) .nil))) (.low rfl) (.low rfl) (Froz.grow (i:=9) rfl rfl rfl) (.low rfl) ?_);conv=>whnf)|((with_reducible first|apply XBr.tt|apply XBr.ff|refine XBr.y fun h=>?_|refine XBr.n fun h=>?_|refine XBr.dec (fun h=>?_) fun h=>?_|refine XInt.a ?_) <;> conv=>whnf) | with_reducible apply XBr.not|((with_reducible refine XGo.go zb [68,77,78,79,82,84,87,89] ?_);conv=>whnf)|fail
    exact zw.go (k + 1) _ (by omega) (by omega) rfl ⟨rfl,rfl,rfl,rfl,rfl,rfl,rfl,trivial⟩
   ·skip
    refine XIx.mk (by decide) (by show _ < ((18 : Nat) : Int);decide) rfl ?_
    conv=>whnf
    repeat' first|((first|(refine vw.mk rfl (by decide) (Nat.le_of_ble_eq_true rfl) rfl ?_)|(with_reducible refine XGo.go zb [68,77,78,79,82,84,87,89] ?_));conv=>whnf)|fail
    refine Walk.norm zb [] [(2,_),(6,_),(7,_),(8,_),(9,_),(10,_),(11,_),(12,_),(13,_),(14,_),(15,_),(16,_),(61,_),(62,_),(63,_),(70,_),(71,_),(72,_)] ⟨rfl,rfl,rfl,rfl,rfl,rfl,rfl,rfl,rfl,rfl,rfl,rfl,rfl,rfl,rfl,rfl,rfl,rfl,trivial⟩ ?_
    conv=>whnf
    repeat' first|((refine za.askS L (limL 2 v) (fun h=>absurd h Bool.false_ne_true) hfew [_,_] [_,_,_,_,_] ⟨_,false,[_,_,_,_,_]⟩ _ _ [_,_,_,_,_,_] (_,_) rfl (y9 (i:=1) (j:=7) (m:=8) (limL 2 v) rfl rfl rfl) (Froz.grow (i:=2) rfl rfl rfl) (Froz.grow (i:=3) rfl rfl rfl) (Froz.agg (by intro v hv;simp only [pcC,List.mem_cons,List.not_mem_nil,or_false] at hv;rcases hv with rfl | rfl <;> rfl) (.cons (.low rfl) (.cons (Froz.grow (i:=4) rfl rfl rfl) .nil))) (.low rfl) (.low rfl) (Froz.grow (i:=9) rfl rfl rfl) (.low rfl) ?_);conv=>whnf)|((with_reducible first|apply XBr.tt|apply XBr.ff|refine XBr.y fun h=>?_|refine XBr.n fun h=>?_|refine XBr.dec (fun h=>?_) fun h=>?_|refine XInt.a ?_) <;> conv=>whnf) | with_reducible apply XBr.not|((with_reducible refine XGo.go zb [68,77,78,79,82,84,87,89] ?_);conv=>whnf)|fail
    exact zw.go (k + 1) _ (by omega) (by omega) rfl ⟨rfl,rfl,rfl,rfl,rfl,rfl,rfl,trivial⟩
   ·skip
    refine XIx.mk (by decide) (by show _ < ((18 : Nat) : Int);decide) rfl ?_
    conv=>whnf
    repeat' first|((first|(refine vw.mk rfl (by decide) (Nat.le_of_ble_eq_true rfl) rfl ?_)|(with_reducible refine XGo.go zb [68,77,78,79,82,84,87,89] ?_));conv=>whnf)|fail
    refine Walk.norm zb [] [(2,_),(6,_),(7,_),(8,_),(9,_),(10,_),(11,_),(12,_),(13,_),(14,_),(15,_),(16,_),(61,_),(62,_),(63,_),(70,_),(71,_),(72,_)] ⟨rfl,rfl,rfl,rfl,rfl,rfl,rfl,rfl,rfl,rfl,rfl,rfl,rfl,rfl,rfl,rfl,rfl,rfl,trivial⟩ ?_
    conv=>whnf
    repeat' first|((refine za.askS L (limL 3 v) (fun h=>absurd h Bool.false_ne_true) hfew [_,_] [_,_,_,_,_] ⟨_,false,[_,_,_,_,_]⟩ _ _ [_,_,_,_,_,_] (_,_) rfl (y9 (i:=1) (j:=7) (m:=8) (limL 3 v) rfl rfl rfl) (Froz.grow (i:=2) rfl rfl rfl) (Froz.grow (i:=3) rfl rfl rfl) (Froz.agg (by intro v hv;simp only [pcC,List.mem_cons,List.not_mem_nil,or_false] at hv;rcases hv with rfl | rfl <;> rfl) (.cons (.low rfl) (.cons (Froz.grow (i:=4) rfl rfl rfl) .nil))) (.low rfl) (.low rfl) (Froz.grow (i:=9) rfl rfl rfl) (.low rfl) ?_);conv=>whnf)|((with_reducible first|apply XBr.tt|apply XBr.ff|refine XBr.y fun h=>?_|refine XBr.n fun h=>?_|refine XBr.dec (fun h=>?_) fun h=>?_|refine XInt.a ?_) <;> conv=>whnf) | with_reducible apply XBr.not|((with_reducible refine XGo.go zb [68,77,78,79,82,84,87,89] ?_);conv=>whnf)|fail
    exact zw.go (k + 1) _ (by omega) (by omega) rfl ⟨rfl,rfl,rfl,rfl,rfl,rfl,rfl,trivial⟩
   ·skip
    refine XIx.mk (by decide) (by show _ < ((18 : Nat) : Int);decide) rfl ?_
    conv=>whnf
    repeat' first|((first|(refine vw.mk rfl (by decide) (Nat.le_of_ble_eq_true rfl) rfl ?_)|(with_reducible refine XGo.go zb [68,77,78,79,82,84,87,89] ?_));conv=>whnf)|fail
    refine Walk.norm zb [] [(2,_),(6,_),(7,_),(8,_),(9,_),(10,_),(11,_),(12,_),(13,_),(14,_),(15,_),(16,_),(61,_),(62,_),(63,_),(70,_),(71,_),(72,_)] ⟨rfl,rfl,rfl,rfl,rfl,rfl,rfl,rfl,rfl,rfl,rfl,rfl,rfl,rfl,rfl,rfl,rfl,rfl,trivial⟩ ?_
    conv=>whnf
    repeat' first|((refine za.askS L (limL 4 v) (fun h=>absurd h Bool.false_ne_true) hfew [_,_] [_,_,_,_,_] ⟨_,false,[_,_,_,_,_]⟩ _ _ [_,_,_,_,_,_] (_,_) rfl (y9 (i:=1) (j:=7) (m:=8) (limL 4 v) rfl rfl rfl) (Froz.grow (i:=2) rfl rfl rfl) (Froz.grow (i:=3) rfl rfl rfl) (Froz.agg (by intro v hv;simp only [pcC,List.mem_cons,List.not_mem_nil,or_false] at hv;rcases hv with rfl | rfl <;> rfl) (.cons (.low rfl) (.cons (Froz.grow (i:=4) rfl rfl rfl) .nil))) (.low rfl) (.low rfl) (Froz.grow (i:=9) rfl rfl rfl) (.low rfl) ?_);conv=>whnf)|((with_reducible first|apply XBr.tt|apply XBr.ff|refine XBr.y fun h=>?_|refine XBr.n fun h=>?_|refine XBr.dec (fun h=>?_) fun h=>?_|refine XInt.a ?_) <;> conv=>whnf) | with_reducible apply XBr.not|((with_reducible refine XGo.go zb [68,77,78,79,82,84,87,89] ?_);conv=>whnf)|fail
    exact zw.go (k + 1) _ (by omega) (by omega) rfl ⟨rfl,rfl,rfl,rfl,rfl,rfl,rfl,trivial⟩
   ·skip
    refine XIx.mk (by decide) (by show _ < ((18 : Nat) : Int);decide) rfl ?_
    conv=>whnf
    repeat' first|((first|(refine vw.mk rfl (by decide) (Nat.le_of_ble_eq_true rfl) rfl ?_)|(with_reducible refine XGo.go zb [68,77,78,79,82,84,87,89] ?_));conv=>whnf)|fail
    refine Walk.norm zb [] [(2,_),(6,_),(7,_),(8,_),(9,_),(10,_),(11,_),(12,_),(13,_),(14,_),(15,_),(16,_),(61,_),(62,_),(63,_),(70,_),(71,_),(72,_)] ⟨rfl,rfl,rfl,rfl,rfl,rfl,rfl,rfl,rfl,rfl,rfl,rfl,rfl,rfl,rfl,rfl,rfl,rfl,trivial⟩ ?_
    conv=>whnf
    repeat' first|((refine za.askS L (limL 5 v) (fun h=>absurd h Bool.false_ne_true) hfew [_,_] [_,_,_,_,_] ⟨_,false,[_,_,_,_,_]⟩ _ _ [_,_,_,_,_,_] (_,_) rfl (y9 (i:=1) (j:=7) (m:=8) (limL 5 v) rfl rfl rfl) (Froz.grow (i:=2) rfl rfl rfl) (Froz.grow (i:=3) rfl rfl rfl) (Froz.agg (by intro v hv;simp only [pcC,List.mem_cons,List.not_mem_nil,or_false] at hv;rcases hv with rfl | rfl <;> rfl) (.cons (.low rfl) (.cons (Froz.grow (i:=4) rfl rfl rfl) .nil))) (.low rfl) (.low rfl) (Froz.grow (i:=9) rfl rfl rfl) (.low rfl) ?_);conv=>whnf)|((with_reducible first|apply XBr.tt|apply XBr.ff|refine XBr.y fun h=>?_|refine XBr.n fun h=>?_|refine XBr.dec (fun h=>?_) fun h=>?_|refine XInt.a ?_) <;> conv=>whnf) | with_reducible apply XBr.not|((with_reducible refine XGo.go zb [68,77,78,79,82,84,87,89] ?_);conv=>whnf)|fail
    exact zw.go (k + 1) _ (by omega) (by omega) rfl ⟨rfl,rfl,rfl,rfl,rfl,rfl,rfl,trivial⟩
   ·skip
    refine XIx.mk (by decide) (by show _ < ((18 : Nat) : Int);decide) rfl ?_
    conv=>whnf
    repeat' first|((first|(refine XPut.mk rfl (by decide) ?_)|(with_reducible refine XGo.go zb [68,77,78,79,82,84,87,89] ?_));conv=>whnf)|fail
    refine Walk.norm zb [] [(2,_),(6,_),(7,_),(8,_),(9,_),(10,_),(11,_),(12,_),(13,_),(14,_),(15,_),(16,_),(61,_),(62,_),(63,_),(70,_),(71,_),(72,_)] ⟨rfl,rfl,rfl,rfl,rfl,rfl,rfl,rfl,rfl,rfl,rfl,rfl,rfl,rfl,rfl,rfl,rfl,rfl,trivial⟩ ?_
    conv=>whnf
    repeat' first|((refine za.askS L (limL 6 v) (fun h=>absurd h Bool.false_ne_true) hfew [_,_] [_,_,_,_,_] ⟨_,false,[_,_,_,_,_]⟩ _ _ [_,_,_,_,_,_] (_,_) rfl (y9 (i:=1) (j:=7) (m:=8) (limL 6 v) rfl rfl rfl) (Froz.grow (i:=2) rfl rfl rfl) (Froz.grow (i:=3) rfl rfl rfl) (Froz.agg (by intro v hv;simp only [pcC,List.mem_cons,List.not_mem_nil,or_false] at hv;rcases hv with rfl | rfl <;> rfl) (.cons (.low rfl) (.cons (Froz.grow (i:=4) rfl rfl rfl) .nil))) (.low rfl) (.low rfl) (Froz.grow (i:=9) rfl rfl rfl) (.low rfl) ?_);conv=>whnf)|((with_reducible first|apply XBr.tt|apply XBr.ff|refine XBr.y fun h=>?_|refine XBr.n fun h=>?_|refine XBr.dec (fun h=>?_) fun h=>?_|refine XInt.a ?_) <;> conv=>whnf) | with_reducible apply XBr.not|((with_reducible refine XGo.go zb [68,77,78,79,82,84,87,89] ?_);conv=>whnf)|fail
    exact zw.go (k + 1) _ (by omega) (by omega) rfl ⟨rfl,rfl,rfl,rfl,rfl,rfl,rfl,trivial⟩
   ·skip
    refine XIx.mk (by decide) (by show _ < ((18 : Nat) : Int);decide) rfl ?_
    conv=>whnf
    repeat' first|((first|(refine XPut.mk rfl (by decide) ?_)|(with_reducible refine XGo.go zb [68,77,78,79,82,84,87,89] ?_));conv=>whnf)|fail
    refine Walk.norm zb [] [(2,_),(6,_),(7,_),(8,_),(9,_),(10,_),(11,_),(12,_),(13,_),(14,_),(15,_),(16,_),(61,_),(62,_),(63,_),(70,_),(71,_),(72,_)] ⟨rfl,rfl,rfl,rfl,rfl,rfl,rfl,rfl,rfl,rfl,rfl,rfl,rfl,rfl,rfl,rfl,rfl,rfl,trivial⟩ ?_
    conv=>whnf
    repeat' first|((refine za.askS L (limL 6 v) (fun h=>absurd h Bool.false_ne_true) hfew [_,_] [_,_,_,_,_] ⟨_,false,[_,_,_,_,_]⟩ _ _ [_,_,_,_,_,_] (_,_) rfl (y9 (i:=1) (j:=7) (m:=8) (limL 6 v) rfl rfl rfl) (Froz.grow (i:=2) rfl rfl rfl) (Froz.grow (i:=3) rfl rfl rfl) (Froz.agg (by intro v hv;simp only [pcC,List.mem_cons,List.not_mem_nil,or_false] at hv;rcases hv with rfl | rfl <;> rfl) (.cons (.low rfl) (.cons (Froz.grow (i:=4) rfl rfl rfl) .nil))) (.low rfl) (.low rfl) (Froz.grow (i:=9) rfl rfl rfl) (.low rfl) ?_);conv=>whnf)|((with_reducible first|apply XBr.tt|apply XBr.ff|refine XBr.y fun h=>?_|refine XBr.n fun h=>?_|refine XBr.dec (fun h=>?_) fun h=>?_|refine XInt.a ?_) <;> conv=>whnf) | with_reducible apply XBr.not|((with_reducible refine XGo.go zb [68,77,78,79,82,84,87,89] ?_);conv=>whnf)|fail
    exact zw.go (k + 1) _ (by omega) (by omega) rfl ⟨rfl,rfl,rfl,rfl,rfl,rfl,rfl,trivial⟩
   ·skip
    refine XIx.mk (by decide) (by show _ < ((18 : Nat) : Int);decide) rfl ?_
    conv=>whnf
    repeat' ((with_reducible refine XGo.go zb [68,77,78,79,82,84,87,89] ?_);conv=>whnf)
    refine Walk.norm zb [] [(2,_),(6,_),(7,_),(8,_),(9,_),(10,_),(11,_),(12,_),(13,_),(14,_),(15,_),(16,_),(61,_),(62,_),(63,_),(70,_),(71,_),(72,_)] ⟨rfl,rfl,rfl,rfl,rfl,rfl,rfl,rfl,rfl,rfl,rfl,rfl,rfl,rfl,rfl,rfl,rfl,rfl,trivial⟩ ?_
    conv=>whnf
    repeat' first|((refine za.askS L (limL 6 v) (fun h=>absurd h Bool.false_ne_true) hfew [_,_] [_,_,_,_,_] ⟨_,false,[_,_,_,_,_]⟩ _ _ [_,_,_,_,_,_] (_,_) rfl (y9 (i:=1) (j:=7) (m:=8) (limL 6 v) rfl rfl rfl) (Froz.grow (i:=2) rfl rfl rfl) (Froz.grow (i:=3) rfl rfl rfl) (Froz.agg (by intro v hv;simp only [pcC,List.mem_cons,List.not_mem_nil,or_false] at hv;rcases hv with rfl | rfl <;> rfl) (.cons (.low rfl) (.cons (Froz.grow (i:=4) rfl rfl rfl) .nil))) (.low rfl) (.low rfl) (Froz.grow (i:=9) rfl rfl rfl) (.low rfl) ?_);conv=>whnf)|((with_reducible first|apply XBr.tt|apply XBr.ff|refine XBr.y fun h=>?_|refine XBr.n fun h=>?_|refine XBr.dec (fun h=>?_) fun h=>?_|refine XInt.a ?_) <;> conv=>whnf) | with_reducible apply XBr.not|((with_reducible refine XGo.go zb [68,77,78,79,82,84,87,89] ?_);conv=>whnf)|fail
    exact zw.go (k + 1) _ (by omega) (by omega) rfl ⟨rfl,rfl,rfl,rfl,rfl,rfl,rfl,trivial⟩
   ·skip
    refine XIx.mk (by decide) (by show _ < ((18 : Nat) : Int);decide) rfl ?_
    conv=>whnf
    repeat' first|((first|(refine XPut.mk rfl (by decide) ?_)|(with_reducible refine XGo.go zb [68,77,78,79,82,84,87,89] ?_));conv=>whnf)|fail
    refine Walk.norm zb [] [(2,_),(6,_),(7,_),(8,_),(9,_),(10,_),(11,_),(12,_),(13,_),(14,_),(15,_),(16,_),(61,_),(62,_),(63,_),(70,_),(71,_),(72,_)] ⟨rfl,rfl,rfl,rfl,rfl,rfl,rfl,rfl,rfl,rfl,rfl,rfl,rfl,rfl,rfl,rfl,rfl,rfl,trivial⟩ ?_
    conv=>whnf
    repeat' first|((refine za.askS L (limL 6 v) (fun h=>absurd h Bool.false_ne_true) hfew [_,_] [_,_,_,_,_] ⟨_,false,[_,_,_,_,_]⟩ _ _ [_,_,_,_,_,_] (_,_) rfl (y9 (i:=1) (j:=7) (m:=8) (limL 6 v) rfl rfl rfl) (Froz.grow (i:=2) rfl rfl rfl) (Froz.grow (i:=3) rfl rfl rfl) (Froz.agg (by intro v hv;simp only [pcC,List.mem_cons,List.not_mem_nil,or_false] at hv;rcases hv with rfl | rfl <;> rfl) (.cons (.low rfl) (.cons (Froz.grow (i:=4) rfl rfl rfl) .nil))) (.low rfl) (.low rfl) (Froz.grow (i:=9) rfl rfl rfl) (.low rfl) ?_);conv=>whnf)|((with_reducible first|apply XBr.tt|apply XBr.ff|refine XBr.y fun h=>?_|refine XBr.n fun h=>?_|refine XBr.dec (fun h=>?_) fun h=>?_|refine XInt.a ?_) <;> conv=>whnf) | with_reducible apply XBr.not|((with_reducible refine XGo.go zb [68,77,78,79,82,84,87,89] ?_);conv=>whnf)|fail
    exact zw.go (k + 1) _ (by omega) (by omega) rfl ⟨rfl,rfl,rfl,rfl,rfl,rfl,rfl,trivial⟩
   ·skip
    refine XIx.mk (by decide) (by show _ < ((18 : Nat) : Int);decide) rfl ?_
    conv=>whnf
    repeat' ((with_reducible refine XGo.go zb [68,77,78,79,82,84,87,89] ?_);conv=>whnf)
    refine Walk.norm zb [] [(2,_),(6,_),(7,_),(8,_),(9,_),(10,_),(11,_),(12,_),(13,_),(14,_),(15,_),(16,_),(61,_),(62,_),(63,_),(70,_),(71,_),(72,_)] ⟨rfl,rfl,rfl,rfl,rfl,rfl,rfl,rfl,rfl,rfl,rfl,rfl,rfl,rfl,rfl,rfl,rfl,rfl,trivial⟩ ?_
    conv=>whnf
    repeat' first|((refine za.askS L (limL 6 v) (fun h=>absurd h Bool.false_ne_true) hfew [_,_] [_,_,_,_,_] ⟨_,false,[_,_,_,_,_]⟩ _ _ [_,_,_,_,_,_] (_,_) rfl (y9 (i:=1) (j:=7) (m:=8) (limL 6 v) rfl rfl rfl) (Froz.grow (i:=2) rfl rfl rfl) (Froz.grow (i:=3) rfl rfl rfl) (Froz.agg (by intro v hv;simp only [pcC,List.mem_cons,List.not_mem_nil,or_false] at hv;rcases hv with rfl | rfl <;> rfl) (.cons (.low rfl) (.cons (Froz.grow (i:=4) rfl rfl rfl) .nil))) (.low rfl) (.low rfl) (Froz.grow (i:=9) rfl rfl rfl) (.low rfl) ?_);conv=>whnf)|((with_reducible first|apply XBr.tt|apply XBr.ff|refine XBr.y fun h=>?_|refine XBr.n fun h=>?_|refine XBr.dec (fun h=>?_) fun h=>?_|refine XInt.a ?_) <;> conv=>whnf) | with_reducible apply XBr.not|((with_reducible refine XGo.go zb [68,77,78,79,82,84,87,89] ?_);conv=>whnf)|fail
    exact zw.go (k + 1) _ (by omega) (by omega) rfl ⟨rfl,rfl,rfl,rfl,rfl,rfl,rfl,trivial⟩
   ·skip
    refine XIx.mk (by decide) (by show _ < ((18 : Nat) : Int);decide) rfl ?_
    conv=>whnf
    repeat' ((with_reducible refine XGo.go zb [68,77,78,79,82,84,87,89] ?_);conv=>whnf)
    refine Walk.norm zb [] [(2,_),(6,_),(7,_),(8,_),(9,_),(10,_),(11,_),(12,_),(13,_),(14,_),(15,_),(16,_),(61,_),(62,_),(63,_),(70,_),(71,_),(72,_)] ⟨rfl,rfl,rfl,rfl,rfl,rfl,rfl,rfl,rfl,rfl,rfl,rfl,rfl,rfl,rfl,rfl,rfl,rfl,trivial⟩ ?_
    conv=>whnf
    repeat' first|((refine za.askS L (limL 6 v) (fun h=>absurd h Bool.false_ne_true) hfew [_,_] [_,_,_,_,_] ⟨_,false,[_,_,_,_,_]⟩ _ _ [_,_,_,_,_,_] (_,_) rfl (y9 (i:=1) (j:=7) (m:=8) (limL 6 v) rfl rfl rfl) (Froz.grow (i:=2) rfl rfl rfl) (Froz.grow (i:=3) rfl rfl rfl) (Froz.agg (by intro v hv;simp only [pcC,List.mem_cons,List.not_mem_nil,or_false] at hv;rcases hv with rfl | rfl <;> rfl) (.cons (.low rfl) (.cons (Froz.grow (i:=4) rfl rfl rfl) .nil))) (.low rfl) (.low rfl) (Froz.grow (i:=9) rfl rfl rfl) (.low rfl) ?_);conv=>whnf)|((with_reducible first|apply XBr.tt|apply XBr.ff|refine XBr.y fun h=>?_|refine XBr.n fun h=>?_|refine XBr.dec (fun h=>?_) fun h=>?_|refine XInt.a ?_) <;> conv=>whnf) | with_reducible apply XBr.not|((with_reducible refine XGo.go zb [68,77,78,79,82,84,87,89] ?_);conv=>whnf)|fail
    exact zw.go (k + 1) _ (by omega) (by omega) rfl ⟨rfl,rfl,rfl,rfl,rfl,rfl,rfl,trivial⟩
   ·skip
    refine XIx.mk (by decide) (by show _ < ((18 : Nat) : Int);decide) rfl ?_
    conv=>whnf
    repeat' first|((first|(refine XPut.mk rfl (by decide) ?_)|(with_reducible refine XGo.go zb [68,77,78,79,82,84,87,89] ?_));conv=>whnf)|fail
    refine Walk.norm zb [] [(2,_),(6,_),(7,_),(8,_),(9,_),(10,_),(11,_),(12,_),(13,_),(14,_),(15,_),(16,_),(61,_),(62,_),(63,_),(70,_),(71,_),(72,_)] ⟨rfl,rfl,rfl,rfl,rfl,rfl,rfl,rfl,rfl,rfl,rfl,rfl,rfl,rfl,rfl,rfl,rfl,rfl,trivial⟩ ?_
    conv=>whnf
    repeat' first|((refine za.askS L (limL 6 v) (fun h=>absurd h Bool.false_ne_true) hfew [_,_] [_,_,_,_,_] ⟨_,false,[_,_,_,_,_]⟩ _ _ [_,_,_,_,_,_] (_,_) rfl (y9 (i:=1) (j:=7) (m:=8) (limL 6 v) rfl rfl rfl) (Froz.grow (i:=2) rfl rfl rfl) (Froz.grow (i:=3) rfl rfl rfl) (Froz.agg (by intro v hv;simp only [pcC,List.mem_cons,List.not_mem_nil,or_false] at hv;rcases hv with rfl | rfl <;> rfl) (.cons (.low rfl) (.cons (Froz.grow (i:=4) rfl rfl rfl) .nil))) (.low rfl) (.low rfl) (Froz.grow (i:=9) rfl rfl rfl) (.low rfl) ?_);conv=>whnf)|((with_reducible first|apply XBr.tt|apply XBr.ff|refine XBr.y fun h=>?_|refine XBr.n fun h=>?_|refine XBr.dec (fun h=>?_) fun h=>?_|refine XInt.a ?_) <;> conv=>whnf) | with_reducible apply XBr.not|((with_reducible refine XGo.go zb [68,77,78,79,82,84,87,89] ?_);conv=>whnf)|fail
    exact zw.go (k + 1) _ (by omega) (by omega) rfl ⟨rfl,rfl,rfl,rfl,rfl,rfl,rfl,trivial⟩
   ·skip
    refine XIx.mk (by decide) (by show _ < ((18 : Nat) : Int);decide) rfl ?_
    conv=>whnf
    repeat' ((with_reducible refine XGo.go zb [68,77,78,79,82,84,87,89] ?_);conv=>whnf)
    refine Walk.norm zb [] [(2,_),(6,_),(7,_),(8,_),(9,_),(10,_),(11,_),(12,_),(13,_),(14,_),(15,_),(16,_),(61,_),(62,_),(63,_),(70,_),(71,_),(72,_)] ⟨rfl,rfl,rfl,rfl,rfl,rfl,rfl,rfl,rfl,rfl,rfl,rfl,rfl,rfl,rfl,rfl,rfl,rfl,trivial⟩ ?_
    conv=>whnf
    repeat' first|((refine za.askS L (limL 6 v) (fun h=>absurd h Bool.false_ne_true) hfew [_,_] [_,_,_,_,_] ⟨_,false,[_,_,_,_,_]⟩ _ _ [_,_,_,_,_,_] (_,_) rfl (y9 (i:=1) (j:=7) (m:=8) (limL 6 v) rfl rfl rfl) (Froz.grow (i:=2) rfl rfl rfl) (Froz.grow (i:=3) rfl rfl rfl) (Froz.agg (by intro v hv;simp only [pcC,List.mem_cons,List.not_mem_nil,or_false] at hv;rcases hv with rfl | rfl <;> rfl) (.cons (.low rfl) (.cons (Froz.grow (i:=4) rfl rfl rfl) .nil))) (.low rfl) (.low rfl) (Froz.grow (i:=9) rfl rfl rfl) (.low rfl) ?_);conv=>whnf)|((with_reducible first|apply XBr.tt|apply XBr.ff|refine XBr.y fun h=>?_|refine XBr.n fun h=>?_|refine XBr.dec (fun h=>?_) fun h=>?_|refine XInt.a ?_) <;> conv=>whnf) | with_reducible apply XBr.not|((with_reducible refine XGo.go zb [68,77,78,79,82,84,87,89] ?_);conv=>whnf)|fail
    exact zw.go (k + 1) _ (by omega) (by omega) rfl ⟨rfl,rfl,rfl,rfl,rfl,rfl,rfl,trivial⟩
   ·skip
    refine XIx.mk (by decide) (by show _ < ((18 : Nat) : Int);decide) rfl ?_
    conv=>whnf
    repeat' ((with_reducible refine XGo.go zb [68,77,78,79,82,84,87,89] ?_);conv=>whnf)
    refine Walk.norm zb [] [(2,_),(6,_),(7,_),(8,_),(9,_),(10,_),(11,_),(12,_),(13,_),(14,_),(15,_),(16,_),(61,_),(62,_),(63,_),(70,_),(71,_),(72,_)] ⟨rfl,rfl,rfl,rfl,rfl,rfl,rfl,rfl,rfl,rfl,rfl,rfl,rfl,rfl,rfl,rfl,rfl,rfl,trivial⟩ ?_
    conv=>whnf
    repeat' first|((refine za.askS L (limL 6 v) (fun h=>absurd h Bool.false_ne_true) hfew [_,_] [_,_,_,_,_] ⟨_,false,[_,_,_,_,_]⟩ _ _ [_,_,_,_,_,_] (_,_) rfl (y9 (i:=1) (j:=7) (m:=8) (limL 6 v) rfl rfl rfl) (Froz.grow (i:=2) rfl rfl rfl) (Froz.grow (i:=3) rfl rfl rfl) (Froz.agg (by intro v hv;simp only [pcC,List.mem_cons,List.not_mem_nil,or_false] at hv;rcases hv with rfl | rfl <;> rfl) (.cons (.low rfl) (.cons (Froz.grow (i:=4) rfl rfl rfl) .nil))) (.low rfl) (.low rfl) (Froz.grow (i:=9) rfl rfl rfl) (.low rfl) ?_);conv=>whnf)|((with_reducible first|apply XBr.tt|apply XBr.ff|refine XBr.y fun h=>?_|refine XBr.n fun h=>?_|refine XBr.dec (fun h=>?_) fun h=>?_|refine XInt.a ?_) <;> conv=>whnf) | with_reducible apply XBr.not|((with_reducible refine XGo.go zb [68,77,78,79,82,84,87,89] ?_);conv=>whnf)|fail
    exact zw.go (k + 1) _ (by omega) (by omega) rfl ⟨rfl,rfl,rfl,rfl,rfl,rfl,rfl,trivial⟩
   ·skip
    refine XIx.mk (by decide) (by show _ < ((18 : Nat) : Int);decide) rfl ?_
    conv=>whnf
    repeat' first|((first|(refine XPut.mk rfl (by decide) ?_)|(with_reducible refine XGo.go zb [68,77,78,79,82,84,87,89] ?_));conv=>whnf)|fail
    refine Walk.norm zb [] [(2,_),(6,_),(7,_),(8,_),(9,_),(10,_),(11,_),(12,_),(13,_),(14,_),(15,_),(16,_),(61,_),(62,_),(63,_),(70,_),(71,_),(72,_)] ⟨rfl,rfl,rfl,rfl,rfl,rfl,rfl,rfl,rfl,rfl,rfl,rfl,rfl,rfl,rfl,rfl,rfl,rfl,trivial⟩ ?_
    conv=>whnf
    repeat' first|((refine za.lend (L.gauge false [_,_,_,_] _ _) (.cons (Froz.grow (i:=10) rfl rfl rfl) (.cons (.low rfl) (.cons (.low rfl) .nil))) rfl ?_);conv=>whnf)|((with_reducible first|apply XBr.tt|apply XBr.ff|refine XBr.y fun h=>?_|refine XBr.n fun h=>?_|refine XBr.dec (fun h=>?_) fun h=>?_|refine XInt.a ?_) <;> conv=>whnf) | with_reducible apply XBr.not|((with_reducible refine XGo.go zb [68,77,78,79,82,84,87,89] ?_);conv=>whnf)|fail
    exact zw.go (k + 1) _ (by omega) (by omega) rfl ⟨rfl,rfl,rfl,rfl,rfl,rfl,rfl,trivial⟩
   ·skip
    refine XIx.mk (by decide) (by show _ < ((18 : Nat) : Int);decide) rfl ?_
    conv=>whnf
    repeat' ((with_reducible refine XGo.go zb [68,77,78,79,82,84,87,89] ?_);conv=>whnf)
    refine Walk.norm zb [] [(2,_),(6,_),(7,_),(8,_),(9,_),(10,_),(11,_),(12,_),(13,_),(14,_),(15,_),(16,_),(61,_),(62,_),(63,_),(70,_),(71,_),(72,_)] ⟨rfl,rfl,rfl,rfl,rfl,rfl,rfl,rfl,rfl,rfl,rfl,rfl,rfl,rfl,rfl,rfl,rfl,rfl,trivial⟩ ?_
    conv=>whnf
    repeat' first|((refine za.lend (L.gauge false [_,_,_,_] _ _) (.cons (Froz.grow (i:=10) rfl rfl rfl) (.cons (.low rfl) (.cons (.low rfl) .nil))) rfl ?_);conv=>whnf)|((with_reducible first|apply XBr.tt|apply XBr.ff|refine XBr.y fun h=>?_|refine XBr.n fun h=>?_|refine XBr.dec (fun h=>?_) fun h=>?_|refine XInt.a ?_) <;> conv=>whnf) | with_reducible apply XBr.not|((with_reducible refine XGo.go zb [68,77,78,79,82,84,87,89] ?_);conv=>whnf)|fail
    exact zw.go (k + 1) _ (by omega) (by omega) rfl ⟨rfl,rfl,rfl,rfl,rfl,rfl,rfl,trivial⟩
   ·skip
    refine XIx.mk (by decide) (by show _ < ((18 : Nat) : Int);decide) rfl ?_
    conv=>whnf
    repeat' ((with_reducible refine XGo.go zb [68,77,78,79,82,84,87,89] ?_);conv=>whnf)
    refine Walk.norm zb [] [(2,_),(6,_),(7,_),(8,_),(9,_),(10,_),(11,_),(12,_),(13,_),(14,_),(15,_),(16,_),(61,_),(62,_),(63,_),(70,_),(71,_),(72,_)] ⟨rfl,rfl,rfl,rfl,rfl,rfl,rfl,rfl,rfl,rfl,rfl,rfl,rfl,rfl,rfl,rfl,rfl,rfl,trivial⟩ ?_
    conv=>whnf
    repeat' first|((refine za.lend (L.gauge false [_,_,_,_] _ _) (.cons (Froz.grow (i:=10) rfl rfl rfl) (.cons (.low rfl) (.cons (.low rfl) .nil))) rfl ?_);conv=>whnf)|((with_reducible first|apply XBr.tt|apply XBr.ff|refine XBr.y fun h=>?_|refine XBr.n fun h=>?_|refine XBr.dec (fun h=>?_) fun h=>?_|refine XInt.a ?_) <;> conv=>whnf) | with_reducible apply XBr.not|((with_reducible refine XGo.go zb [68,77,78,79,82,84,87,89] ?_);conv=>whnf)|fail
    exact zw.go (k + 1) _ (by omega) (by omega) rfl ⟨rfl,rfl,rfl,rfl,rfl,rfl,rfl,trivial⟩
  ·skip
   repeat' first|((with_reducible first|refine XBr.y fun h=>?_|refine XBr.n fun h=>?_|refine XBr.dec (fun h=>?_) fun h=>?_|refine XInt.a ?_) <;> conv=>whnf)|((with_reducible refine XGo.go zb [68,77,78,79,82,84,87,89] ?_);conv=>whnf)|fail
   exact zw.go (i + 1) _ (by omega) (by omega) rfl ⟨rfl,rfl,rfl,trivial⟩
 ·obtain rfl : i = 18:=by omega
  refine XGo.go zb [] ?_
  conv=>whnf
  refine XBr.no (decide_eq_false (by omega)) ?_
  conv=>whnf
  refine XGo.go zb [] ?_
  conv=>whnf
  exact XGo.at [] trivial (Walk.run zb [68,77,78,79,82,84,87,89] (ssLoads L G))
theorem zeh : Comp Tryz.prog 3 [] (.bool true):=zcA lawsS givesS
end GA
end
