/- Part 5 of a proof: F11, F12, F13, F14, F15, F16, F17, F18, F35, F36, F52, F41, F64, F43, F19, Abs51, F85. -/
import Derived.Test.YtdeocemmlagnhaaGreatP4
set_option linter.unusedVariables false
set_option linter.unusedSimpArgs false
set_option maxRecDepth 8000
section
namespace GA
open Go Go.RowKit Go.Proofs
def stsA (l : List Sta) : AV:=.sl l.isEmpty (l.map staA)
structure StOk (s : Sn) (x : Sta) : Prop where
 p : (x.p : Int) < s.places
 m : (x.m : Int) <= s.last
 l : x.l <= 1000
theorem after1_c (y t : Int × Int) : Comp Tryz.prog 354 [sgA y,.pim [.int .i64 t.1,.int .i64 t.2]] (.bool (y == t)):=by
 have hb : (y == t) = (y.1 == t.1 && y.2 == t.2):=rfl
 refine Comp.body (T:=tab) (res:=[.tmp 3]) za [] Tryz.func354 rfl (by kernel_rfl) Tryz.ntmps354 rfl (by simp only [List.length_cons,List.length_nil];decide) (by rfl) ?_;conv=>whnf
 repeat' ((refine XEqA.mk ⟨[y.1,y.2],[t.1,t.2],rfl,rfl,rfl,rfl,?_⟩);conv=>whnf)
 refine XOut.bool ?_
 rw [hb,Bool.eq_iff_iff]
 simp
theorem vJ : ∀ l : List (Int × AV),(l.map (·.1)).zip (l.map (·.2)) = l
 | []=>rfl
 | (a,b) :: l=>by rw [List.map_cons,List.map_cons,List.zip_cons_cons,vJ l]
theorem partN_le {s : Sn} (ok : SnOk s) (p left n : Nat) : partN s p left n < 16:=by
 have h : partN s p left n < 2 ^ s.looks.length:=jl _ _
 have h2 : 2 ^ s.looks.length <= 2 ^ 4:=Nat.pow_le_pow_right (by omega) (by have:=ok.k1;have:=ok.t2;omega)
 omega
theorem partsL_le {s : Sn} (ok : SnOk s) {p left l : Nat} (h : l ∈ zC s p left) : l < 16:=by
 obtain ⟨n,-,e,-⟩:=wB.1 h
 rw [e];exact partN_le ok _ _ _
theorem ways_any (l : List (Int × Int)) (t : Int × Int) : l.any (fun y=>y == t) = l.contains t:=by
 rw [Bool.eq_iff_iff,List.any_eq_true,List.contains_iff_mem]
 constructor
 ·rintro ⟨y,hy,e⟩;rw [beq_iff_eq] at e;subst e;exact hy
 ·intro h;exact ⟨t,h,by simp⟩
theorem kf {s : Sn} {x : Sta} {t : Int × Int} (h : zW s x = false \/ inZ (x.m + t.2) 0 s.last = false \/ (waysL s x.p).contains t = false) : zm s x t = []:=by
 unfold zm
 rw [if_neg]
 rintro ⟨h1,h2,h3,-⟩
 rcases h with h | h | h
 ·rw [h] at h1;cases h1
 ·rw [h] at h2;cases h2
 ·rw [h] at h3;cases h3
theorem wrap_le {z : Int} (h1 : -9223372036854775808 <= z) (h2 : z <= 9223372036854775807) : IntKind.i64.wrap z = z:=by
 simp only [IntKind.wrap,IntKind.bits,IntKind.signed];simp;omega
theorem wrap_gt {z : Int} (h1 : 9223372036854775807 < z) (h2 : z <= 9223372036854775807 + 100) : IntKind.i64.wrap z < 0:=by
 simp only [IntKind.wrap,IntKind.bits,IntKind.signed];simp;omega
theorem inZ_wrap {z last : Int} (h1 : -9223372036854775808 <= z) (h2 : z <= 9223372036854775807 + 100) (h3 : last <= 60) : inZ (IntKind.i64.wrap z) 0 last = inZ z 0 last:=by
 by_cases h : z <= 9223372036854775807
 ·rw [wrap_le h1 h]
 ·have:=wrap_gt (by omega) h2
  rw [Bool.eq_iff_iff,zr,zr]
  omega
theorem jM.dskF {s : Sn} {k : List AV -> Prop} (h : k [.im (keyF s) ((esF s s.places.toNat).map (·.2))]) : jM 312 (zau s) k:=by
 have l : (snC s ++ dryC s).length = 312:=by rw [List.length_append,show (dryC s).length = 305 from ji _ _];rfl
 have e : zau s = (snC s ++ dryC s) ++ [.im (keyF s) ((esF s s.places.toNat).map (·.2))]:=by unfold zau;rw [List.append_assoc]
 refine ⟨by rw [e,List.length_append,l];omega,?_⟩
 rw [e,List.drop_left' l];exact h
theorem wq (s : Sn) (ok : SnOk s) (x : Sta) (hx : StOk s x) (t : Int × Int) (ht1 : -9223372036854775808 <= t.2) (ht2 : t.2 <= 9223372036854775807) : Comp Tryz.prog 246 [zF s,staA x,sgA t] (stsA (zm s x t)):=by
 have p1:=ok.p1;have p2:=ok.p2;have l1:=ok.l1;have l2:=ok.l2;have w1:=ok.w1
 have x1:=hx.p;have x2:=hx.m;have x3:=hx.l
 have hsf:=qV s ok x (by omega) (by omega) (by omega)
 have hmn:=yU s (IntKind.i64.wrap (x.m + t.2))
 rw [inZ_wrap (by omega) (by omega) (by omega)] at hmn
 have hdl : (dryC s).length = 305:=ji _ _
 have hct:=contf_sg false (waysL s x.p) 354 [.pim [.int .i64 t.1,.int .i64 t.2]] (fun y=>y == t) rfl (by
  have h:=yo s x.p s.places.toNat
  have h2 : s.places.toNat * (1 + s.ways.length) <= 5 * 11:=Nat.mul_le_mul (by omega) (by omega)
  show (yc s x.p s.places.toNat).length <= 100000
  omega) fun y _=>after1_c y t
 rw [ways_any] at hct
 have hmg : mget (x.p : Int) ((keyF s).zip ((esF s s.places.toNat).map (·.2))) = some (.sl false (sgs (waysL s x.p))):=by
  unfold keyF;rw [vJ];exact wI s _ _ (by omega)
 cases h1 : zW s x with
 | false =>
   rw [kf (.inl h1)]
   rw [h1] at hsf
   refine Comp.body (T:=tab) (res:=[.tmp 6]) za [] Tryz.func246 rfl (by kernel_rfl) Tryz.ntmps246 rfl (by simp only [List.length_cons,List.length_nil];decide) (by simp only [lowL,AV.low,zG,staL];rfl) ?_;conv=>whnf
   refine ⟨?_⟩
   conv=>whnf
   repeat' first|((with_reducible first|apply XBr.tt|apply XBr.ff|apply Chk.go|apply ChkA.go|apply ChkF.go|apply ChkB.go|apply zq.mk);conv=>whnf)|(with_reducible first|apply XBr.not|apply XAnd.mk|exact trivial)|(exact zg.mk rfl rfl)|(apply Walk.drawN (id:=2) za zd [] [] (hsU _) [_,_,_,_,_,_,_,_,_,_,_,_,_,_,_,_,_,_,_,_,_,_] (by kernel_rfl) rfl)|((refine zb.ret hsf ?_);conv=>whnf)|fail
   exact ⟨.low rfl⟩
 | true =>
   rw [h1] at hsf
   cases h2 : inZ (x.m + t.2) 0 s.last with
   | false =>
     rw [kf (.inr (.inl h2))]
     rw [h2] at hmn
     refine Comp.body (T:=tab) (res:=[.tmp 6]) za [] Tryz.func246 rfl (by kernel_rfl) Tryz.ntmps246 rfl (by simp only [List.length_cons,List.length_nil];decide) (by simp only [lowL,AV.low,zG,staL];rfl) ?_;conv=>whnf
     refine ⟨?_⟩
     conv=>whnf
     repeat' first|((with_reducible first|apply XBr.tt|apply XBr.ff|apply Chk.go|apply ChkA.go|apply ChkF.go|apply ChkB.go|apply zq.mk);conv=>whnf)|(with_reducible first|apply XBr.not|apply XAnd.mk|exact trivial)|(exact zg.mk rfl rfl)|(apply Walk.drawN (id:=2) za zd [] [] (hsU _) [_,_,_,_,_,_,_,_,_,_,_,_,_,_,_,_,_,_,_,_,_,_] (by kernel_rfl) rfl)|((first|refine zb.ret hsf ?_|refine zb.ret hmn ?_);conv=>whnf)|fail
     exact ⟨.low rfl⟩
   | true =>
     rw [h2] at hmn
     cases h3 : (waysL s x.p).contains t with
     | false =>
       rw [kf (.inr (.inr h3))]
       rw [h3] at hct
       refine Comp.body (T:=tab) (res:=[.tmp 6]) za [] Tryz.func246 rfl (by kernel_rfl) Tryz.ntmps246 rfl (by simp only [List.length_cons,List.length_nil];decide) (by simp only [lowL,AV.low,zG,staL];rfl) ?_;conv=>whnf
       refine ⟨?_⟩
       conv=>whnf
       repeat' first|((with_reducible first|apply XBr.tt|apply XBr.ff|apply Chk.go|apply ChkA.go|apply ChkF.go|apply ChkB.go|apply zq.mk);conv=>whnf)|(with_reducible first|apply XBr.not|apply XAnd.mk|exact trivial)|(exact zg.mk rfl rfl)|(apply Walk.drawN (id:=2) za zd [] [] (hsU _) [_,_,_,_,_,_,_,_,_,_,_,_,_,_,_,_,_,_,_,_,_,_] (by kernel_rfl) rfl)|((first|refine zb.ret hsf ?_|refine zb.ret hmn ?_|refine jM.dskF ?_|refine kh.mk' hmg ?_|refine zb.ret hct ?_);conv=>whnf)|fail
       exact ⟨.low rfl⟩
     | true =>
       rw [h3] at hct
       have hw:=List.contains_iff_mem.1 h3
       obtain ⟨w1',w2',w3',w4'⟩:=yn ok hw
       obtain ⟨⟨q0,t2⟩,rfl⟩ : ∃ u : Int × Int,t = u:=⟨t,rfl⟩
       obtain ⟨q,rfl⟩ : ∃ q : Nat,q0 = q:=⟨q0.toNat,by dsimp only at w3';omega⟩
       dsimp only at w1' w2' w3' w4' h2 h3 hct hmn ht1 ht2 ⊢
       obtain ⟨m',hm'⟩ : ∃ m' : Nat,(x.m : Int) + t2 = m':=⟨((x.m : Int) + t2).toNat,by omega⟩
       have h2':=zr.1 h2
       have hout : outS s x ((q : Int),t2) = (zC s q x.l).map fun l=>(⟨q,m',l⟩ : Sta):=by
        unfold outS
        dsimp only
        rw [Int.toNat_natCast,show ((x.m : Int) + t2).toNat = m' by omega]
       have haf : zm s x ((q : Int),t2) = if ((zC s q x.l).map fun l=>(⟨q,m',l⟩ : Sta)).all (zW s) = true then (zC s q x.l).map (fun l=>(⟨q,m',l⟩ : Sta)) else []:=by
        unfold zm
        rw [hout]
        by_cases ha : ((zC s q x.l).map fun l=>(⟨q,m',l⟩ : Sta)).all (zW s) = true
        ·rw [if_pos ⟨h1,h2,h3,ha⟩,if_pos ha]
        ·rw [if_neg (fun h=>ha h.2.2.2),if_neg ha]
       have hpt:=fi s ok q x.l (by omega) x3
       have hpl:=fun l (h : l ∈ zC s q x.l)=>partsL_le ok h
       have hpn : (zC s q x.l).length <= 4:=by
        unfold zC
        have : ∀ k,(zJ s q x.l k).length <= k:=fun k=>by
         induction k with
         | zero=>exact Nat.le_refl _
         | succ n ih=>rw [zJ,List.length_append];split <;> simp only [List.length_cons,List.length_nil] <;> omega
        exact this 4
       rw [haf]
       generalize zC s q x.l = L at hpt hpl hpn
       have hev:=zdg ((L.map fun l=>(⟨q,m',l⟩ : Sta)).isEmpty) (L.map fun l=>(⟨q,m',l⟩ : Sta)) 239 [zF s] (zW s) (by show ((zF s).low 0 && true) = true;rw [zG];rfl) (by rw [List.length_map];omega) (fun y hy=>by
        obtain ⟨l,hl,rfl⟩:=List.mem_map.1 hy
        exact qV s ok _ (by show q < 5;omega) (by show m' < 61;omega) (by have:=hpl l hl;show l <= 1000;omega))
       have e1 : ((L.map natA).length : Int) = L.length:=by rw [List.length_map]
       have hmn2:=yU s (m' : Int)
       have hin : inZ (m' : Int) 0 s.last = true:=by rw [<- hm'];exact h2
       rw [hin] at hmn2
       refine Comp.body (T:=tab) (res:=[.tmp 6]) za [] Tryz.func246 rfl (by kernel_rfl) Tryz.ntmps246 rfl (by simp only [List.length_cons,List.length_nil];decide) (by simp only [lowL,AV.low,zG,staL];rfl) ?_;conv=>whnf
       rw [hm']
       repeat' first|((with_reducible first|apply XBr.tt|refine XInt.a ?_|apply Chk.go|apply ChkA.go|apply ChkF.go|apply ChkB.go|apply zq.mk);conv=>whnf)|(with_reducible first|apply XBr.not|apply XAnd.mk|exact trivial)|(exact zg.mk rfl rfl)|(apply Walk.drawN (id:=2) za zd [] [] (hsU _) [_,_,_,_,_,_,_,_,_,_,_,_,_,_,_,_,_,_,_,_,_,_] (by kernel_rfl) rfl)|((first|refine zb.ret hsf ?_|refine zb.ret hmn2 ?_|refine jM.dskF ?_|refine kh.mk' hmg ?_|refine zb.ret hct ?_|refine zb.ret hpt ?_);conv=>whnf)|fail
       refine Walk.nilgr 8 30 rfl ?_
       refine Walk.loopGK za [] [(0,_),(5,_),(6,_),(7,_),(44,_),(45,_)] ⟨rfl,rfl,rfl,rfl,rfl,rfl,trivial⟩ (fun k : Nat=>k <= L.length) (fun k=>[(8,.gr 0 k),(46,natA k)]) (fun k=>[.grow 30 ((L.take k).map fun l=>(⟨q,m',l⟩ : Sta)).isEmpty (((L.take k).map fun l=>(⟨q,m',l⟩ : Sta)).map staA)]) (fun k=>L.length - k) 0 (Nat.zero_le _) rfl ⟨rfl,rfl,trivial⟩ ?_ (fun _ _=>(show (1 : Nat) <= 1 from Nat.le_refl 1)) ?_
       ·intro k _
        refine ⟨fun z hz=>?_,fun z hz=>?_⟩
        ·rw [List.mem_singleton] at hz;subst hz;exact yb _
        ·simp only [List.cons_append,List.nil_append,List.mem_cons,List.not_mem_nil,or_false] at hz
         rcases hz with rfl | rfl | rfl | rfl | rfl | rfl | rfl | rfl <;> first | rfl|exact zG s|exact nsL _
       intro k hk
       have hnx : k < L.length -> (L.take (k + 1)).map (fun l=>(⟨q,m',l⟩ : Sta)) = (L.take k).map (fun l=>(⟨q,m',l⟩ : Sta)) ++ [⟨q,m',L.getD k default⟩]:=fun h=>by rw [zD h,List.map_append];rfl
       have hall : k = L.length -> (L.take k).map (fun l=>(⟨q,m',l⟩ : Sta)) = L.map fun l=>(⟨q,m',l⟩ : Sta):=fun h=>by rw [h,List.take_length]
       have hkl : ((L.take k).map fun l=>(⟨q,m',l⟩ : Sta)).length = k:=by rw [List.length_map,List.length_take];omega
       generalize (L.take k).map (fun l=>(⟨q,m',l⟩ : Sta)) = R at hnx hall hkl
       have hsl : (R.map staA).length = k:=by rw [List.length_map];exact hkl
       conv=>whnf
       by_cases hlt : k < L.length
       ·skip
        repeat' first|((with_reducible first|refine XBr.y fun h=>?_|refine XBr.n fun h=>?_|refine XBr.dec (fun h=>?_) fun h=>?_|refine XInt.a ?_) <;> conv=>whnf)|((first|refine zh.a ?_|refine XIx.a ?_);conv=>whnf)|fail
        refine zl.go (k + 1) [] (by omega) (by omega) ?_ ⟨rfl,rfl,rfl,rfl,rfl,rfl,rfl,rfl,trivial⟩
        show [Blk.grow _ ((L.take (k + 1)).map fun l=>(⟨q,m',l⟩ : Sta)).isEmpty (((L.take (k + 1)).map fun l=>(⟨q,m',l⟩ : Sta)).map staA)] ++ [] = _
        rw [hnx hlt,zy,List.map_append];rfl
       obtain rfl : k = L.length:=by omega
       have hR:=hall rfl
       rw [<- hR] at hev ⊢
       generalize hb : R.all (zW s) = b at hev
       repeat' first|((with_reducible first|refine XBr.y fun h=>?_|refine XBr.n fun h=>?_|refine XBr.dec (fun h=>?_) fun h=>?_) <;> conv=>whnf) | with_reducible apply XBr.not|((refine zb.lend hev (.cons (Froz.grow rfl hsl (yb _)) (.cons (Froz.low (by show ((zF s).low 0 && true) = true;rw [zG];rfl)) .nil)) rfl ?_);conv=>whnf)|((with_reducible refine XBr.mk' (fun h=>?_) fun h=>?_) <;> conv=>whnf)|fail
       ·rw [if_pos (by assumption)]
        exact ⟨Froz.grow rfl hsl (yb _)⟩
       ·rw [if_neg (by simp_all)]
        exact ⟨.low rfl⟩
end GA
end
section
namespace GA
open Go Go.RowKit Go.Proofs
def stC (x : Sta) : List AV:=[natA x.p,natA x.m,natA x.l]
theorem zbT (s : Sn) (x : Sta) : Comp Tryz.prog 105 [zF s,staA x] (.int .i64 (ye s x)):=by
 have hd : ye s x = if (x.p : Int) = s.home then 0 else -1:=rfl
 by_cases h : (x.p : Int) = s.home
 ·rw [hd,if_pos h]
  refine Comp.body (T:=tab) (res:=[.tmp 4]) za [] Tryz.func105 rfl (by kernel_rfl) Tryz.ntmps105 rfl (by simp only [List.length_cons,List.length_nil];decide) (by simp only [lowL,zG,staL];rfl) ?_;conv=>whnf
  repeat' first|((with_reducible first|refine XBr.y1 fun h=>?_|refine XBr.n1 fun h=>?_|refine XBr.beq (fun h=>?_) fun h=>?_|apply Chk.go|apply ChkA.go|apply ChkF.go|apply ChkB.go|apply zq.mk) <;> conv=>whnf)|(with_reducible first|apply XAnd.mk|exact trivial)|(exact zg.mk rfl rfl)|(apply Walk.drawN (id:=1) za zd [] [] (hsU _) [_,_,_,_,_,_,_,_] (by kernel_rfl) rfl)|fail
  exact ⟨.low rfl⟩
 ·rw [hd,if_neg h]
  refine Comp.body (T:=tab) (res:=[.tmp 4]) za [] Tryz.func105 rfl (by kernel_rfl) Tryz.ntmps105 rfl (by simp only [List.length_cons,List.length_nil];decide) (by simp only [lowL,zG,staL];rfl) ?_;conv=>whnf
  repeat' first|((with_reducible first|refine XBr.y1 fun h=>?_|refine XBr.n1 fun h=>?_|refine XBr.beq (fun h=>?_) fun h=>?_|apply Chk.go|apply ChkA.go|apply ChkF.go|apply ChkB.go|apply zq.mk) <;> conv=>whnf)|(with_reducible first|apply XAnd.mk|exact trivial)|(exact zg.mk rfl rfl)|(apply Walk.drawN (id:=1) za zd [] [] (hsU _) [_,_,_,_,_,_,_,_] (by kernel_rfl) rfl)|fail
  exact ⟨.low rfl⟩
theorem vT (n : Int) (nl : Bool) (l : List Int) (hl : l.length <= 100000) : Comp Tryz.prog 265 [.int .i64 n,.sl nl (ints l)] (.int .i64 (l.foldl min n)):=by
 have e1 : ((ints l).length : Int) = l.length:=by rw [zK]
 refine Comp.body (T:=tab) (res:=[.tmp 4]) za [] Tryz.func265 rfl (by kernel_rfl) Tryz.ntmps265 rfl (by simp only [List.length_cons,List.length_nil];decide) (by simp only [lowL,AV.low,lowI];rfl) ?_;conv=>whnf
 skip
 refine Walk.loopK za [] [(4,_),(7,_),(8,_)] ⟨rfl,rfl,rfl,trivial⟩ (fun k : Nat=>k <= l.length) (fun k=>[(0,.int .i64 ((l.take k).foldl min n)),(9,natA k)]) (fun _=>[]) (fun k=>l.length - k) 0 (Nat.zero_le _) rfl ⟨rfl,rfl,trivial⟩ ?_
 intro k hk
 have hnx : k < l.length -> (l.take (k + 1)).foldl min n = min ((l.take k).foldl min n) (l.getD k default):=fun h=>by rw [zD h,List.foldl_append];rfl
 have hall : k = l.length -> (l.take k).foldl min n = l.foldl min n:=fun h=>by rw [h,List.take_length]
 generalize (l.take k).foldl min n = v at hnx hall
 conv=>whnf
 by_cases hlt : k < l.length
 ·skip
  repeat' first|((with_reducible first|refine XBr.y fun h=>?_|refine XBr.n fun h=>?_|refine XBr.dec (fun h=>?_) fun h=>?_|refine XInt.a ?_) <;> conv=>whnf)|(refine XIx.a ?_;conv=>whnf)|fail
  exact zj.go (k + 1) (by omega) (by omega) rfl ⟨rfl,rfl,rfl,(by rw [hnx hlt];rfl),rfl,trivial⟩
 obtain rfl : k = l.length:=by omega
 repeat' ((with_reducible first|refine XBr.y fun h=>?_|refine XBr.n fun h=>?_|refine XBr.dec (fun h=>?_) fun h=>?_) <;> conv=>whnf)
 exact XOut.int (hall rfl)
theorem qx (s : Sn) (x : Sta) : Comp Tryz.prog 106 [zF s,staA x] (.fn 264 [.pim [zF s],.pim (stC x)]):=by
 refine Comp.body (T:=tab) (res:=[.tmp 4]) za [] Tryz.func106 rfl (by kernel_rfl) Tryz.ntmps106 rfl (by simp only [List.length_cons,List.length_nil];decide) (by simp only [lowL,zG,staL];rfl) ?_;conv=>whnf
 skip
 exact ⟨.low (by show ((lowL 0 [zF s]) && _) = true;simp only [lowL,zG];rfl)⟩
def jQ (s : Sn) (f : Sta -> Int) (x : Sta) (t : Int × Int) (l : List Sta) : Int:=
 let n:=minL f l
 if n ≠ -1 /\ (x.p : Int) = s.bed /\ t.1 = s.bed then n + 1 else n
theorem gG (s : Sn) (f : Sta -> Int) (x : Sta) (t : Int × Int) : zP s f x t = jQ s f x t (zm s x t):=rfl
def worF (s : Sn) : AV:=.fn 230 [.ptr 1 0,.pim [zF s],.ptr 2 0,.ptr 0 0]
def wH (s : Sn) (g : WSt) : List Blk:=[.cells (zvs 4880 (G3 (wNum s g.D))),.cells (tvs 4880 (G3 g.K)),.cells [worF s]]
theorem worL (s : Sn) : (worF s).low 3 = true:=by
 show lowL 3 [AV.ptr 1 0,.pim [zF s],.ptr 2 0,.ptr 0 0] = true
 simp only [lowL,AV.low,zG];rfl
theorem yM (s : Sn) (g : WSt) : ∀ x ∈ wH s g,x.low 3 = true:=fun x hx=>by
 simp only [wH,List.mem_cons,List.not_mem_nil,or_false] at hx
 rcases hx with rfl | rfl | rfl
 ·exact jP _ _
 ·exact tvs_low _ _
 ·show (((worF s).low 3) && true) = true
  rw [worL];rfl
structure NumW (s : Sn) (nx : Sta -> WSt -> WSt) (I : WSt -> Prop) (y : Sta) : Prop where
 c : ∀ g,I g -> z7 Tryz.prog 230 [staA y,.ptr 1 0,.pim [zF s],.ptr 2 0,.ptr 0 0] (wH s g) fun r H'=>r = .int .i64 (zi s y) /\ H' = wH s (nx y g)
 i : ∀ g,I g -> I (nx y g)
theorem zb.num {s : Sn} {nx : Sta -> WSt -> WSt} {I : WSt -> Prop} {y : Sta} (h : NumW s nx I y) {g : WSt} (hg : I g) (X : List Blk) {H : List Blk} (hH : H = wH s g ++ X) {K : AV -> List Blk -> Prop} (hk : K (.int .i64 (zi s y)) (wH s (nx y g) ++ X)) :
  zb Tryz.prog 230 [staA y,.ptr 1 0,.pim [zF s],.ptr 2 0,.ptr 0 0] H K:=by
 refine zb.pre X (h.c g hg) hH (yM s g) ?_ ?_
 ·show (true && (true && ((AV.pim [zF s]).low 3 && true))) = true
  simp only [AV.low,lowL,zG];rfl
 ·rintro r H' ⟨rfl,rfl⟩
  exact ⟨rfl,yM s _,rfl,hk⟩
def nxL (nx : Sta -> WSt -> WSt) (l : List Sta) (g : WSt) : WSt:=l.foldl (fun g y=>nx y g) g
theorem nxL_i {nx : Sta -> WSt -> WSt} {I : WSt -> Prop} : ∀ {l : List Sta} {g : WSt},(∀ y ∈ l,∀ g,I g -> I (nx y g)) -> I g -> I (nxL nx l g)
 | [],_,_,h=>h
 | y :: l,g,h,hg=>nxL_i (l:=l) (fun z hz=>h z (List.mem_cons_of_mem _ hz)) (h y List.mem_cons_self g hg)
theorem zbk (xs : List Sta) : wide 3 (xs.map staA) = true:=wt (f:=staA) (n:=3) (fun _=>rfl) (fun _=>rfl) xs
theorem gained_w (s : Sn) (ok : SnOk s) (nx : Sta -> WSt -> WSt) (I : WSt -> Prop) (x : Sta) (t : Int × Int) (nl : Bool) (y0 : Sta) (l : List Sta) (hl : l.length <= 100) (hn : ∀ y ∈ y0 :: l,NumW s nx I y) (hb : ∀ y ∈ y0 :: l,zi s y <= 100) (g : WSt) (hg : I g) :
  z7 Tryz.prog 107 [zF s,staA x,sgA t,.sl nl ((y0 :: l).map staA),worF s] (wH s g) fun r H'=>r = .int .i64 (jQ s (zi s) x t (y0 :: l)) /\ H' = wH s (nxL nx (y0 :: l) g):=by
 have hg1 : I (nx y0 g):=(hn y0 List.mem_cons_self).i g hg
 have hb0:=hb y0 List.mem_cons_self
 have e1 : (((y0 :: l).map staA).length : Int) = l.length + 1:=by rw [List.length_map,List.length_cons];omega
 have hsl : List.take (((((y0 :: l).map staA).length : Nat) : Int) - 1).toNat (List.drop (Int.toNat 1) ((y0 :: l).map staA)) = l.map staA:=by
  rw [e1,show ((l.length : Int) + 1 - 1).toNat = l.length by omega]
  show List.take l.length (l.map staA) = _
  rw [<- List.map_take,List.take_length]
 have e2 : ((y0 :: l).length : Int) = l.length + 1:=by rw [List.length_cons];omega
 have e3 : ((l.map staA).length : Int) = l.length:=by rw [List.length_map]
 refine z7.bodyK (T:=tab) (res:=[.tmp 10]) za [] Tryz.func107 rfl (by kernel_rfl) Tryz.ntmps107 rfl (by simp only [List.length_cons,List.length_nil];decide) ?_;conv=>whnf
 repeat' first|((first|refine XIx.b ?_|refine zb.num (hn y0 List.mem_cons_self) hg [] (List.append_nil _).symm ?_);conv=>whnf)|(rw [hsl];conv=>whnf)|((refine zh.mk ⟨by omega,by omega,by omega,.inr (zbk _)⟩ ?_);conv=>whnf)|fail
 refine Walk.loopGK za [] [(0,_),(4,_),(6,_),(7,_),(10,_),(20,_),(21,_)] ⟨rfl,rfl,rfl,rfl,rfl,rfl,rfl,trivial⟩ (fun k : Nat=>k <= l.length) (fun k=>[(11,.int .i64 ((l.take k).foldl (fun n y=>min n (zi s y)) (zi s y0))),(22,natA k)]) (fun k=>wH s (nxL nx (l.take k) (nx y0 g))) (fun k=>l.length - k) 0 (Nat.zero_le _) rfl ⟨rfl,rfl,trivial⟩ ?_ (fun _ _=>(show (3 : Nat) <= 3 from Nat.le_refl 3)) ?_
 ·intro k _
  refine ⟨yM s _,fun z hz=>?_⟩
  simp only [List.cons_append,List.nil_append,List.mem_cons,List.not_mem_nil,or_false] at hz
  rcases hz with rfl | rfl | rfl | rfl | rfl | rfl | rfl | rfl | rfl <;> first | rfl|exact zG s|exact worL s|exact yb _
 intro k hk
 have hI : I (nxL nx (l.take k) (nx y0 g)):=nxL_i (fun y hy=>(hn y (List.mem_cons_of_mem _ (List.mem_of_mem_take hy))).i) hg1
 have hnx : k < l.length -> nxL nx (l.take (k + 1)) (nx y0 g) = nx (l.getD k default) (nxL nx (l.take k) (nx y0 g)):=fun h=>by unfold nxL;rw [zD h,List.foldl_append];rfl
 have hfx : k < l.length -> (l.take (k + 1)).foldl (fun n y=>min n (zi s y)) (zi s y0) = min ((l.take k).foldl (fun n y=>min n (zi s y)) (zi s y0)) (zi s (l.getD k default)):=fun h=>by rw [zD h,List.foldl_append];rfl
 have hend : k = l.length -> nxL nx (l.take k) (nx y0 g) = nxL nx (y0 :: l) g:=fun h=>by rw [h,List.take_length];rfl
 have hfend : k = l.length -> (l.take k).foldl (fun n y=>min n (zi s y)) (zi s y0) = minL (zi s) (y0 :: l):=fun h=>by rw [h,List.take_length];rfl
 generalize nxL nx (l.take k) (nx y0 g) = gk at hI hnx hend
 generalize (l.take k).foldl (fun n y=>min n (zi s y)) (zi s y0) = v at hfx hfend
 conv=>whnf
 by_cases hlt : k < l.length
 ·have hy : l.getD k default ∈ y0 :: l:=List.mem_cons_of_mem _ (zk hlt)
  have hls:=vT v false [zi s (l.getD k default)] (by simp)
  repeat' first|((with_reducible first|refine XBr.y fun h=>?_|refine XBr.n fun h=>?_|refine XBr.dec (fun h=>?_) fun h=>?_|refine XInt.a ?_) <;> conv=>whnf)|((first|refine zh.a ?_|refine XIx.a ?_|refine zb.num (hn _ hy) hI [.cells (stC (l.getD k default))] rfl ?_|refine zb.ret hls ?_);conv=>whnf)|fail
  refine zl.go (k + 1) [.cells (stC (l.getD k default))] (by omega) (by omega) ?_ ⟨rfl,rfl,rfl,rfl,rfl,rfl,rfl,(by rw [hfx hlt];rfl),rfl,trivial⟩
  show wH s (nxL nx (l.take (k + 1)) (nx y0 g)) ++ _ = _
  rw [hnx hlt]
 obtain rfl : k = l.length:=by omega
 have hv:=hfend rfl
 rw [<- hend rfl]
 have hge : -1 <= minL (zi s) (y0 :: l):=zbS (List.cons_ne_nil _ _) fun y _=>yQ s y
 have hle : minL (zi s) (y0 :: l) <= zi s y0:=(jZ (f:=zi s) (List.cons_ne_nil y0 l)).2 y0 List.mem_cons_self
 have hgl : jQ s (zi s) x t (y0 :: l) = if v ≠ -1 /\ (x.p : Int) = s.bed /\ t.1 = s.bed then v + 1 else v:=by unfold jQ;rw [<- hv]
 rw [<- hv] at hge hle
 rw [hgl]
 by_cases c1 : v = -1
 ·rw [if_neg (fun h=>h.1 c1)]
  repeat' first|((with_reducible first|apply XBr.ff|refine XBr.y fun h=>?_|refine XBr.n fun h=>?_|refine XBr.dec (fun h=>?_) fun h=>?_|refine XBr.y2 fun h=>?_|refine XBr.n2 fun h=>?_|refine XBr.bne (fun h=>?_) fun h=>?_|apply Chk.go|apply ChkA.go|apply ChkF.go|apply ChkB.go|apply zq.mk) <;> conv=>whnf)|(with_reducible first|apply XAnd.mk|exact trivial)|(exact zg.mk rfl rfl)|(apply Walk.drawN (id:=7) za zd [] [] (hsU _) [_,_,_,_,_,_,_,_,_,_,_,_,_,_,_,_,_,_,_,_,_,_] (by kernel_rfl) rfl)|fail
  exact XCut.mk' (wH s gk) [] (List.append_nil _) rfl (yM s gk) rfl ⟨rfl,rfl⟩
 by_cases c2 : (x.p : Int) = s.bed
 ·by_cases c3 : t.1 = s.bed
  ·rw [if_pos ⟨c1,c2,c3⟩]
   repeat' first|((with_reducible first|refine XBr.y fun h=>?_|refine XBr.n fun h=>?_|refine XBr.dec (fun h=>?_) fun h=>?_|refine XBr.y1 fun h=>?_|refine XBr.n1 fun h=>?_|refine XBr.beq (fun h=>?_) fun h=>?_|refine XBr.y2 fun h=>?_|refine XBr.n2 fun h=>?_|refine XBr.bne (fun h=>?_) fun h=>?_|refine XInt.a ?_|apply Chk.go|apply ChkA.go|apply ChkF.go|apply ChkB.go|apply zq.mk) <;> conv=>whnf)|(with_reducible first|apply XAnd.mk|exact trivial)|(exact zg.mk rfl rfl)|(apply Walk.drawN (id:=7) za zd [] [] (hsU _) [_,_,_,_,_,_,_,_,_,_,_,_,_,_,_,_,_,_,_,_,_,_] (by kernel_rfl) rfl)|fail
   exact XCut.mk' (wH s gk) [] (List.append_nil _) rfl (yM s gk) rfl ⟨rfl,rfl⟩
  ·rw [if_neg (fun h=>c3 h.2.2)]
   repeat' first|((with_reducible first|refine XBr.y fun h=>?_|refine XBr.n fun h=>?_|refine XBr.dec (fun h=>?_) fun h=>?_|refine XBr.y1 fun h=>?_|refine XBr.n1 fun h=>?_|refine XBr.beq (fun h=>?_) fun h=>?_|refine XBr.y2 fun h=>?_|refine XBr.n2 fun h=>?_|refine XBr.bne (fun h=>?_) fun h=>?_|apply Chk.go|apply ChkA.go|apply ChkF.go|apply ChkB.go|apply zq.mk) <;> conv=>whnf)|(with_reducible first|apply XAnd.mk|exact trivial)|(exact zg.mk rfl rfl)|(apply Walk.drawN (id:=7) za zd [] [] (hsU _) [_,_,_,_,_,_,_,_,_,_,_,_,_,_,_,_,_,_,_,_,_,_] (by kernel_rfl) rfl)|fail
   exact XCut.mk' (wH s gk) [] (List.append_nil _) rfl (yM s gk) rfl ⟨rfl,rfl⟩
 ·rw [if_neg (fun h=>c2 h.2.1)]
  repeat' first|((with_reducible first|apply XBr.ff|refine XBr.y fun h=>?_|refine XBr.n fun h=>?_|refine XBr.dec (fun h=>?_) fun h=>?_|refine XBr.y1 fun h=>?_|refine XBr.n1 fun h=>?_|refine XBr.beq (fun h=>?_) fun h=>?_|refine XBr.y2 fun h=>?_|refine XBr.n2 fun h=>?_|refine XBr.bne (fun h=>?_) fun h=>?_|apply Chk.go|apply ChkA.go|apply ChkF.go|apply ChkB.go|apply zq.mk) <;> conv=>whnf)|(with_reducible first|apply XAnd.mk|exact trivial)|(exact zg.mk rfl rfl)|(apply Walk.drawN (id:=7) za zd [] [] (hsU _) [_,_,_,_,_,_,_,_,_,_,_,_,_,_,_,_,_,_,_,_,_,_] (by kernel_rfl) rfl)|fail
  exact XCut.mk' (wH s gk) [] (List.append_nil _) rfl (yM s gk) rfl ⟨rfl,rfl⟩
end GA
end
section
namespace GA
open Go Go.RowKit Go.Proofs
def nxS (s : Sn) (nx : Sta -> WSt -> WSt) (x : Sta) (T : List (Int × Int)) (g : WSt) : WSt:=T.foldl (fun g t=>nxL nx (zm s x t) g) g
def bstN (s : Sn) (f : Sta -> Int) (x : Sta) (T : List (Int × Int)) (n : Int) : Int:=T.foldl (fun n t=>if (!(zm s x t).isEmpty) = true then max n (zP s f x t) else n) n
theorem zcy (s : Sn) (f : Sta -> Int) (x : Sta) (h : zW s x = true) : bstN s f x (waysL s x.p) (ye s x) = zM s f x:=by
 unfold bstN zM zT
 rw [if_pos h,List.foldl_filter]
theorem nxS_i {s : Sn} {nx : Sta -> WSt -> WSt} {I : WSt -> Prop} {x : Sta} : ∀ {T : List (Int × Int)} {g : WSt},(∀ t ∈ T,∀ y ∈ zm s x t,∀ g,I g -> I (nx y g)) -> I g -> I (nxS s nx x T g)
 | [],_,_,h=>h
 | t :: T,g,h,hg=>nxS_i (T:=T) (fun u hu=>h u (List.mem_cons_of_mem _ hu)) (nxL_i (h t List.mem_cons_self) hg)
theorem zan {s : Sn} {x : Sta} (h : zW s x = false) (t : Int × Int) : zm s x t = []:=kf (.inl h)
theorem fW {s : Sn} {x : Sta} (h : zW s x = false) (nx : Sta -> WSt -> WSt) (g : WSt) : ∀ T,nxS s nx x T g = g
 | []=>rfl
 | t :: T=>by
   show nxS s nx x T (nxL nx (zm s x t) g) = g
   rw [zan h];exact fW h nx g T
theorem kI (s : Sn) (p left : Nat) : (zC s p left).length <= 4:=by
 unfold zC
 have : ∀ k,(zJ s p left k).length <= k:=fun k=>by
  induction k with
  | zero=>exact Nat.le_refl _
  | succ n ih=>rw [zJ,List.length_append];split <;> simp only [List.length_cons,List.length_nil] <;> omega
 exact this 4
theorem y8 (s : Sn) (x : Sta) (t : Int × Int) : (zm s x t).length <= 4:=by
 unfold zm
 split
 ·unfold outS;rw [List.length_map];exact kI _ _ _
 ·exact Nat.zero_le _
theorem best_w (s : Sn) (ok : SnOk s) (nx : Sta -> WSt -> WSt) (I : WSt -> Prop) (x : Sta) (hx : StOk s x) (hn : ∀ t,∀ y ∈ zm s x t,NumW s nx I y) (hb : ∀ t,∀ y ∈ zm s x t,zi s y <= 100) (g : WSt) (hg : I g) :
  z7 Tryz.prog 231 [zF s,staA x,worF s] (wH s g) fun r H'=>r = .int .i64 (zM s (zi s) x) /\ H' = wH s (nxS s nx x (waysL s x.p) g):=by
 have p1:=ok.p1;have p2:=ok.p2;have l1:=ok.l1;have l2:=ok.l2;have w1:=ok.w1
 have x1:=hx.p;have x2:=hx.m;have x3:=hx.l
 have hsf:=qV s ok x (by omega) (by omega) (by omega)
 cases h1 : zW s x with
 | false =>
   rw [h1] at hsf
   rw [fW h1,show zM s (zi s) x = -1 by unfold zM;rw [if_neg (by rw [h1];simp)]]
   refine z7.bodyK (T:=tab) (res:=[.tmp 6]) za [] Tryz.func231 rfl (by kernel_rfl) Tryz.ntmps231 rfl (by simp only [List.length_cons,List.length_nil];decide) ?_;conv=>whnf
   repeat' first|((with_reducible apply XBr.ff);conv=>whnf) | with_reducible apply XBr.not|((refine zb.ret hsf ?_);conv=>whnf)|fail
   exact XCut.mk' (wH s g) [] (List.append_nil _) rfl (yM s g) rfl ⟨rfl,rfl⟩
 | true =>
   rw [h1] at hsf
   have hmg : mget (x.p : Int) ((keyF s).zip ((esF s s.places.toNat).map (·.2))) = some (.sl false ((waysL s x.p).map sgA)):=by
    unfold keyF;rw [vJ];exact wI s _ _ (by omega)
   have hho:=zbT s x
   have hst:=qx s x
   rw [<- zcy s (zi s) x h1]
   have hwl : (waysL s x.p).length <= 55:=by
    have h:=yo s x.p s.places.toNat
    have h2 : s.places.toNat * (1 + s.ways.length) <= 5 * 11:=Nat.mul_le_mul (by omega) (by omega)
    show (yc s x.p s.places.toNat).length <= 55
    omega
   have hwm:=fun t (h : t ∈ waysL s x.p)=>yn ok h
   generalize waysL s x.p = W at hmg hwl hwm
   have e1 : ((W.map sgA).length : Int) = W.length:=by rw [List.length_map]
   refine z7.bodyK (T:=tab) (res:=[.tmp 6]) za [] Tryz.func231 rfl (by kernel_rfl) Tryz.ntmps231 rfl (by simp only [List.length_cons,List.length_nil];decide) ?_;conv=>whnf
   repeat' first|((with_reducible apply XBr.tt);conv=>whnf) | with_reducible apply XBr.not|((first|refine zb.ret hsf ?_|refine zb.ret hho ?_|refine zb.ret hst ?_);conv=>whnf)|fail
   refine Walk.range (own:=[]) za [(3,.pim [zF s]),(4,.pim (stC x)),(5,.pim [worF s]),(6,.int .i64 0),(7,.ptr 3 0)] rfl ⟨rfl,rfl,rfl,rfl,rfl,trivial⟩ ?_
   intro fn
   refine zb.inl (T:=tab) (res:=[]) za [] Tryz.func264 rfl (by kernel_rfl) Tryz.ntmps264 rfl (by simp only [List.length_append,List.length_cons,List.length_nil];decide) ?_;conv=>whnf
   repeat' first|((with_reducible first|apply Chk.go|apply ChkA.go|apply ChkF.go|apply ChkB.go|apply zq.mk);conv=>whnf)|(with_reducible first|apply XAnd.mk|exact trivial)|(exact zg.mk rfl rfl)|(apply Walk.drawN (id:=0) za zd [] [] (hsU _) [_,_,_,_,_,_,_,_,_] (by kernel_rfl) rfl)|((first|refine jM.dskF ?_|refine kh.mk' hmg ?_);conv=>whnf)|fail
   refine Walk.loopGKL za [] _ [(0,_),(1,_),(2,_),(13,_),(14,_)] ⟨rfl,rfl,rfl,rfl,rfl,trivial⟩ (fun k : Nat=>k <= W.length) (fun k=>[(15,natA k)]) (fun lp k=>wH s (nxS s nx x (W.take k) g) ++ [.cells [.int .i64 (bstN s (zi s) x (W.take k) (ye s x))],.raw (.deferred (some [])),lp]) (fun k=>W.length - k) 0 (Nat.zero_le _) rfl ⟨rfl,trivial⟩ ?_ (fun _ _=>(show (6 : Nat) <= 6 from Nat.le_refl 6)) ?_
   ·intro k _
    refine ⟨fun z hz=>?_,fun z hz=>?_⟩
    ·show z.low 6 = true
     simp only [wH,List.cons_append,List.nil_append,List.mem_cons,List.not_mem_nil,or_false] at hz
     rcases hz with rfl | rfl | rfl | rfl | rfl | rfl
     ·exact jP _ _
     ·exact tvs_low _ _
     ·exact low_mono (n:=3) (by omega) (show (((worF s).low 3) && true) = true by rw [worL];rfl)
     ·rfl
     ·rfl
     ·show lowL 6 [AV.pim [zF s],AV.pim (stC x),AV.pim [worF s],AV.int .i64 0,AV.ptr 3 0] = true
      simp only [lowL,AV.low,zG,AV.low_mono (n:=3) (m:=6) (by omega) (worL s)];rfl
    ·show z.2.low 6 = true
     simp only [List.cons_append,List.nil_append,List.mem_cons,List.not_mem_nil,or_false] at hz
     rcases hz with rfl | rfl | rfl | rfl | rfl | rfl <;> first | rfl|exact zN _|(simp only [AV.low,lowL,zG];rfl)
   intro k hk
   have hI : I (nxS s nx x (W.take k) g):=nxS_i (fun t _ y hy=>(hn t y hy).i) hg
   have hnx : k < W.length -> nxS s nx x (W.take (k + 1)) g = nxL nx (zm s x (W.getD k default)) (nxS s nx x (W.take k) g):=fun h=>by unfold nxS;rw [zD h,List.foldl_append];rfl
   have hbx : k < W.length -> bstN s (zi s) x (W.take (k + 1)) (ye s x) = if (!(zm s x (W.getD k default)).isEmpty) = true then max (bstN s (zi s) x (W.take k) (ye s x)) (zP s (zi s) x (W.getD k default)) else bstN s (zi s) x (W.take k) (ye s x):=fun h=>by unfold bstN;rw [zD h,List.foldl_append];rfl
   have hend : k = W.length -> nxS s nx x (W.take k) g = nxS s nx x W g:=fun h=>by rw [h,List.take_length]
   have hbend : k = W.length -> bstN s (zi s) x (W.take k) (ye s x) = bstN s (zi s) x W (ye s x):=fun h=>by rw [h,List.take_length]
   generalize nxS s nx x (W.take k) g = gk at hI hnx hend
   generalize bstN s (zi s) x (W.take k) (ye s x) = v at hbx hbend
   conv=>whnf
   by_cases hlt : k < W.length
   ·have hw:=hwm _ (zk (d:=default) hlt)
    have hfa:=wq s ok x hx (W.getD k default) (by omega) (by omega)
    have hnk:=hn (W.getD k default)
    have hbk:=hb (W.getD k default)
    have hgq:=gG s (zi s) x (W.getD k default)
    have hnx:=hnx hlt
    have hbx:=hbx hlt
    cases haf : zm s x (W.getD k default) with
    | nil =>
      rw [haf] at hfa hnx hbx
      have e0 : (([] : List AV).length : Int) = 0:=rfl
      have hfa' : Comp Tryz.prog 246 [zF s,staA x,sgA (W.getD k default)] (.sl true []):=hfa
      repeat' first|((with_reducible first|apply XBr.ff|refine XBr.y fun h=>?_|refine XBr.n fun h=>?_|refine XBr.dec (fun h=>?_) fun h=>?_|refine XInt.a ?_) <;> conv=>whnf)|((first|refine XIx.a ?_|refine zb.ret hfa' ?_);conv=>whnf)|fail
      refine zl.go (k + 1) [.cells (sgA (W.getD k default)).cells] (by omega) (by omega) ?_ ⟨rfl,rfl,rfl,rfl,rfl,rfl,trivial⟩
      show (wH s (nxS s nx x (W.take (k + 1)) g) ++ [.cells [.int .i64 (bstN s (zi s) x (W.take (k + 1)) (ye s x))],_,_]) ++ _ = _
      rw [hnx,hbx];rfl
    | cons y0 l =>
      rw [haf] at hfa hnx hbx hnk hbk hgq
      have hla : lowL 3 [zF s,staA x,sgA (W.getD k default),.sl false ((y0 :: l).map staA),worF s] = true:=by simp only [lowL,AV.low,zG,staL,yb,worL];rfl
      have hln : l.length <= 100:=by
       have:=y8 s x (W.getD k default)
       rw [haf,List.length_cons] at this
       omega
      have hfa' : Comp Tryz.prog 246 [zF s,staA x,sgA (W.getD k default)] (.sl false ((y0 :: l).map staA)):=hfa
      have e2 : (((y0 :: l).map staA).length : Int) = l.length + 1:=by rw [List.length_map,List.length_cons];omega
      have hgw:=gained_w s ok nx I x (W.getD k default) false y0 l hln hnk hbk gk hI
      rw [<- hgq] at hgw
      repeat' first|((with_reducible first|apply XBr.tt|refine XBr.y fun h=>?_|refine XBr.n fun h=>?_|refine XBr.dec (fun h=>?_) fun h=>?_) <;> conv=>whnf)|((first|(first|refine XIx.a ?_|refine zb.ret hfa' ?_)|((refine wZ.go (own:=[]) za rfl rfl (by decide) ?_);intro ρ));conv=>whnf)|fail
      apply Walk.drawX za zd [] [6,8] (hsC [_,_,_]) [_,_,_,_,_,_,_,_,_] (by kernel_rfl) rfl
      ·skip
       repeat' first|((with_reducible first|apply Chk.go|apply ChkA.go);conv=>whnf)|(with_reducible first|apply XAnd.mk|exact trivial)|(exact zg.mk rfl rfl)|(refine zb.pre _ hgw rfl (yM s gk) hla ?_;rintro r H' ⟨rfl,rfl⟩;exact ⟨rfl,yM s _,rfl,zg.mk rfl rfl⟩)|fail
      ·skip
       repeat' first|((with_reducible first|apply Chk.go|apply ChkF.go|apply ChkB.go);conv=>whnf)|(with_reducible first|apply XAnd.mk|exact trivial)|(exact zg.mk rfl rfl)|fail
      conv=>whnf
      repeat' first|((with_reducible first|apply XBr.tt|refine XInt.a ?_);conv=>whnf) | with_reducible apply XBr.not|fail
      refine zl.go (k + 1) [.cells (sgA (W.getD k default)).cells,.cells (sgA (W.getD k default)).cells] (by omega) (by omega) ?_ ⟨rfl,rfl,rfl,rfl,rfl,rfl,trivial⟩
      show (wH s (nxS s nx x (W.take (k + 1)) g) ++ [.cells [.int .i64 (bstN s (zi s) x (W.take (k + 1)) (ye s x))],_,_]) ++ _ = _
      rw [hnx,hbx];rfl
   obtain rfl : k = W.length:=by omega
   rw [<- hend rfl,<- hbend rfl]
   repeat' ((with_reducible first|refine XBr.y fun h=>?_|refine XBr.n fun h=>?_|refine XBr.dec (fun h=>?_) fun h=>?_) <;> conv=>whnf)
   exact ⟨wH s gk,[_,_,_],rfl,rfl,yM s gk,by simp,fun i hi=>by (rw [List.mem_singleton] at hi;subst hi;exact ⟨(show (3 : Nat) <= 4 by omega),rfl⟩),rfl,⟨rfl,rfl⟩⟩
end GA
end
section
namespace GA
open Go Go.RowKit Go.Proofs
theorem ym {s : Sn} (ok : SnOk s) : allN s < 16:=by
 have h2 : 2 ^ s.truths.length <= 2 ^ 4:=Nat.pow_le_pow_right (by omega) ok.t2
 unfold allN;omega
theorem jI {s : Sn} (ok : SnOk s) {p left l : Nat} (h : l ∈ zC s p left) : l <= allN s:=by
 obtain ⟨n,-,e,-⟩:=wB.1 h
 have h1 : partN s p left n < 2 ^ s.looks.length:=jl _ _
 rw [ok.k1] at h1
 unfold allN;omega
theorem yf {s : Sn} (ok : SnOk s) {x y : Sta} {t : Int × Int} (h : y ∈ zm s x t) : vld s y:=by
 obtain ⟨h1,h2,h3,h4,h5,-⟩:=jH h
 have hw:=yn ok h4
 exact ⟨by omega,h3,jI ok h5⟩
def WPost (s : Sn) (x : Sta) (g g' : WSt) : Prop:=
 (z7 Tryz.prog 230 [staA x,.ptr 1 0,.pim [zF s],.ptr 2 0,.ptr 0 0] (wH s g) fun r H'=>r = .int .i64 (zi s x) /\ H' = wH s g') /\ WInv s x.m g' /\ WRel x.m g g' /\ g'.K x.p x.m x.l = true
set_option maxHeartbeats 2000000 in
theorem zc9 (s : Sn) (ok : SnOk s) : ∀ (d : Nat) (x : Sta),vld s x -> (s.last + 1 - x.m).toNat <= d -> ∀ g,WInv s x.m g -> ∃ g',WPost s x g g'
 | 0,x,hv,hd,_,_=>by have:=hv.2.1;omega
 | d + 1,x,hv,hd,g,hg=>by
   have p2:=ok.p2;have l2:=ok.l2
   obtain ⟨v1,v2,v3⟩:=hv
   have hal:=ym ok
   have hidx : 976 * x.p + 16 * x.m + x.l < 4880:=by omega
   by_cases hk : g.K x.p x.m x.l = true
   ·have hD : g.D x.p x.m x.l = true:=by rw [hg.d _ _ _ (Nat.le_refl _)];exact hk
    have hk0 : G3 g.K (976 * x.p + 16 * x.m + x.l) = true:=by rw [G3_at _ (by omega) (by omega)];exact hk
    have hw0 : G3 (wNum s g.D) (976 * x.p + 16 * x.m + x.l) = zi s x:=by rw [G3_at _ (by omega) (by omega),gC hD]
    refine ⟨g,?_,hg,.rfl',hk⟩
    refine z7.bodyK (T:=tab) (res:=[.tmp 6]) za [] Tryz.func230 rfl (by kernel_rfl) Tryz.ntmps230 rfl (by simp only [List.length_cons,List.length_nil];decide) ?_;conv=>whnf
    repeat' first|((with_reducible first|apply Chk.go|apply ChkA.go|apply ChkF.go|apply ChkB.go|apply zq.mk);conv=>whnf)|(with_reducible first|apply XBr.not|apply XAnd.mk|exact trivial)|(exact zg.mk rfl rfl)|(((with_reducible refine XArr.ptr ?_ ?_ ?_);omega;omega);conv=>whnf)|(apply Walk.drawN (id:=1) za zd [] [] (hsU _) [_,_,_,_,_,_,_,_,_,_,_] (by kernel_rfl) rfl)|(apply Walk.drawN (id:=4) za zd [] [] (hsU _) [_,_,_,_,_,_,_,_,_,_,_] (by kernel_rfl) rfl)|((first|refine vh (f:=AV.bool) (W:=4880) (F:=G3 g.K) (976 * x.p + 16 * x.m + x.l) (by omega) (by omega) ?_|refine XBr.yes hk0 ?_|refine vh (f:=AV.int .i64) (W:=4880) (F:=G3 (wNum s g.D)) (976 * x.p + 16 * x.m + x.l) (by omega) (by omega) ?_);conv=>whnf)|fail
    exact XCut.mk' (wH s g) [] (List.append_nil _) rfl (yM s g) rfl ⟨congrArg (AV.int .i64) hw0,rfl⟩
   ·have hkf : g.K x.p x.m x.l = false:=by simpa using hk
    have ih:=zc9 s ok d
    obtain ⟨nx,hnx⟩ : ∃ nx : Sta -> WSt -> WSt,∀ y,vld s y -> x.m < y.m -> ∀ g,WInv s y.m g -> WPost s y g (nx y g):=by
     have hex : ∀ y g,∃ g',vld s y /\ x.m < y.m /\ WInv s y.m g -> WPost s y g g':=fun y g=>by
      by_cases h : vld s y /\ x.m < y.m /\ WInv s y.m g
      ·obtain ⟨g',hg'⟩:=ih y h.1 (by have:=h.1.2.1;omega) g h.2.2
       exact ⟨g',fun _=>hg'⟩
      ·exact ⟨g,fun h'=>absurd h' h⟩
     exact ⟨fun y g=>Classical.choose (hex y g),fun y h1 h2 g h3=>Classical.choose_spec (hex y g) ⟨h1,h2,h3⟩⟩
    have hsK:=hg.setK (x:=x) ⟨v1,v2,v3⟩
    have hn : ∀ t,∀ y ∈ zm s x t,NumW s nx (fun q=>WInv s (x.m + 1) q /\ WRel (x.m + 1) (setK g x) q) y:=fun t y hy=>by
     have hm:=(jj ok hy).1
     have hvy:=yf ok hy
     exact ⟨fun q hq=>(hnx y hvy hm q (hq.1.up (by omega))).1,fun q hq=>by
      obtain ⟨-,a2,a3,-⟩:=hnx y hvy hm q (hq.1.up (by omega))
      exact ⟨hq.1.back a2 a3,hq.2.trans (a3.down (by omega))⟩⟩
    have hb : ∀ t,∀ y ∈ zm s x t,zi s y <= 100:=fun t y hy=>by
     have:=vv s y (yf ok hy).2.1
     omega
    have hbw:=best_w s ok nx _ x ⟨v1,v2,by omega⟩ hn hb (setK g x) ⟨hsK,.rfl'⟩
    have hi:=nxS_i (s:=s) (nx:=nx) (I:=fun q=>WInv s (x.m + 1) q /\ WRel (x.m + 1) (setK g x) q) (x:=x) (T:=waysL s x.p) (g:=setK g x) (fun t _ y hy=>(hn t y hy).i) ⟨hsK,.rfl'⟩
    rw [<- zaF ok v2] at hbw
    generalize nxS s nx x (waysL s x.p) (setK g x) = g1 at hbw hi
    obtain ⟨r1,r2,r3⟩:=hg.setD hi.1 hi.2
    have hk0 : G3 g.K (976 * x.p + 16 * x.m + x.l) = false:=by rw [G3_at _ (by omega) (by omega)];exact hkf
    have hs1 : updV (G3 g.K) (976 * x.p + 16 * x.m + x.l) true = G3 (setK g x).K:=G3_set g.K true (by omega) (by omega)
    have hs2 : updV (G3 (wNum s g1.D)) (976 * x.p + 16 * x.m + x.l) (zi s x) = G3 (wNum s (setD g1 x).D):=by rw [G3_set _ _ (by omega) (by omega),wNum_set]
    have hw0 : G3 (wNum s (setD g1 x).D) (976 * x.p + 16 * x.m + x.l) = zi s x:=by
     rw [G3_at _ (by omega) (by omega)]
     exact gC (jk _ _ _ _ _)
    have hla : lowL 3 [zF s,staA x,worF s] = true:=by simp only [lowL,AV.low,zG,staL,worL];rfl
    refine ⟨setD g1 x,?_,r1,r2,r3⟩
    refine z7.bodyK (T:=tab) (res:=[.tmp 6]) za [] Tryz.func230 rfl (by kernel_rfl) Tryz.ntmps230 rfl (by simp only [List.length_cons,List.length_nil];decide) ?_;conv=>whnf
    repeat' first|((with_reducible first|apply Chk.go|apply ChkA.go|apply ChkF.go|apply ChkB.go|apply zq.mk);conv=>whnf)|(with_reducible first|apply XBr.not|apply XAnd.mk|exact trivial)|(exact zg.mk rfl rfl)|(((with_reducible refine XArr.ptr ?_ ?_ ?_);omega;omega);conv=>whnf)|(apply Walk.drawN (id:=1) za zd [] [] (hsU _) [_,_,_,_,_,_,_,_,_,_,_] (by kernel_rfl) rfl)|(apply Walk.drawN (id:=2) za zd [] [9] (hsC [_,_]) [_,_,_,_,_,_,_,_,_,_] (by kernel_rfl) rfl)|((first|(first|refine vh (f:=AV.bool) (W:=4880) (F:=G3 g.K) (976 * x.p + 16 * x.m + x.l) (by omega) (by omega) ?_|refine XBr.no hk0 ?_)|((refine zc2 (f:=AV.bool) (W:=4880) (F:=G3 g.K) true (976 * x.p + 16 * x.m + x.l) (by omega) (by omega) ?_);rw [hs1]));conv=>whnf)|fail
    apply Walk.drawX za zd [] [9,13] (hsC [_,_,_]) [_,_,_,_,_,_,_,_,_,_,_,_,_,_] (by kernel_rfl) rfl
    ·skip
     repeat' first|((with_reducible first|apply Chk.go|apply ChkA.go);conv=>whnf)|(with_reducible first|apply XAnd.mk|exact trivial)|(exact zg.mk rfl rfl)|(((with_reducible refine XArr.ptr ?_ ?_ ?_);omega;omega);conv=>whnf)|(refine zb.pre [] hbw rfl (yM s _) hla ?_;rintro r H' ⟨rfl,rfl⟩;exact ⟨rfl,yM s _,rfl,zg.mk rfl rfl⟩)|(((refine zc2 (f:=AV.int .i64) (W:=4880) (F:=G3 (wNum s g1.D)) (zi s x) (976 * x.p + 16 * x.m + x.l) (by omega) (by omega) ?_);rw [hs2]);conv=>whnf)|fail
    ·skip
     repeat' first|((with_reducible first|apply Chk.go|apply ChkF.go|apply ChkB.go);conv=>whnf)|(with_reducible first|apply XAnd.mk|exact trivial)|(exact zg.mk rfl rfl)|(((with_reducible refine XArr.ptr ?_ ?_ ?_);omega;omega);conv=>whnf)|fail
    conv=>whnf
    repeat' first|((with_reducible first|apply Chk.go|apply ChkA.go|apply ChkF.go|apply ChkB.go|apply zq.mk);conv=>whnf)|(with_reducible first|apply XAnd.mk|exact trivial)|(exact zg.mk rfl rfl)|(((with_reducible refine XArr.ptr ?_ ?_ ?_);omega;omega);conv=>whnf)|(apply Walk.drawN (id:=4) za zd [] [] (hsU _) [_,_,_,_,_,_,_,_,_,_,_] (by kernel_rfl) rfl)|((refine vh (f:=AV.int .i64) (W:=4880) (F:=G3 (wNum s (setD g1 x).D)) (976 * x.p + 16 * x.m + x.l) (by omega) (by omega) ?_);conv=>whnf)|fail
    exact XCut.mk' (wH s (setD g1 x)) [] (List.append_nil _) rfl (yM s _) rfl ⟨congrArg (AV.int .i64) hw0,rfl⟩
end GA
end
section
namespace GA
open Go Go.RowKit Go.Proofs
def vldB (s : Sn) : T3 Bool:=fun p m l=>decide ((p : Int) < s.places) && decide ((m : Int) <= s.last) && decide (l <= allN s)
theorem zcN {s : Sn} {p m l : Nat} : vldB s p m l = true ↔ vld s ⟨p,m,l⟩:=by
 unfold vldB vld
 simp only [Bool.and_eq_true,decide_eq_true_eq,and_assoc]
def wTab (s : Sn) : List AV:=zvs 4880 (G3 (wNum s (vldB s)))
def wsA (s : Sn) : AV:=.pim (wTab s)
theorem zaE {n : Nat} (s : Sn) : (wsA s).low n = true:=jP _ _
def gBeg : WSt:=⟨fun _ _ _=>false,fun _ _ _=>false⟩
theorem wInv_beg (s : Sn) : WInv s 0 gBeg:=⟨fun _ _ _ h=>Bool.noConfusion (show false = true from h),fun _ _ _ h=>Bool.noConfusion (show false = true from h),fun _ _ _ _=>rfl⟩
theorem wH_beg (s : Sn) : wH s gBeg = [.cells (rep 4880 (AV.int .i64 0)),.cells (rep 4880 (AV.bool false)),.cells [worF s]]:=by
 rw [rep_eq,rep_eq]
 have h1 : zvs 4880 (G3 (wNum s gBeg.D)) = List.replicate 4880 (AV.int .i64 0):=(zvs0 4880).symm
 have h2 : tvs 4880 (G3 gBeg.K) = List.replicate 4880 (AV.bool false):=(tvs0 4880).symm
 unfold wH;rw [h1,h2]
theorem wH_end {s : Sn} {g : WSt} (h : WInv s 0 g) (hk : ∀ p m l,vld s ⟨p,m,l⟩ -> g.K p m l = true) : zvs 4880 (G3 (wNum s g.D)) = wTab s:=by
 have : g.D = vldB s:=by
  funext p m l
  rw [h.d p m l (Nat.zero_le _),Bool.eq_iff_iff,zcN]
  exact ⟨h.v p m l,hk p m l⟩
 unfold wTab;rw [this]
theorem xn_len {A : Prop} : ∀ {n : Nat} {cs : List AV},n = cs.length -> A -> xn n cs A
 | 0,[],_,h=>h
 | n + 1,[],e,_=>by simp at e
 | 0,_ :: _,e,_=>by simp at e
 | n + 1,_ :: cs,e,h=>xn_len (n:=n) (cs:=cs) (by simpa using e) h
theorem zaK : ∀ {c d : List AV} {k : List AV -> Prop},c.length = d.length -> k d -> xspl c 0 d k
 | [],[],_,_,h=>h
 | [],_ :: _,_,e,_=>by simp at e
 | _ :: _,[],_,e,_=>by simp at e
 | x :: c,y :: d,k,e,h=>zaK (c:=c) (d:=d) (k:=fun l=>k (y :: l)) (by simpa using e) h
theorem repn_len (n : Nat) (x : AV) : (rep n x).length = n:=by rw [rep_eq,List.length_replicate]
def Dn (s : Sn) (P b l : Nat) (g : WSt) : Prop:=∀ p m k,vld s ⟨p,m,k⟩ -> p < P \/ (p = P /\ (s.last - m < b \/ (s.last - m = b /\ k < l))) -> g.K p m k = true
theorem jG (s : Sn) (ok : SnOk s) : Comp Tryz.prog 56 [zF s] (wsA s):=by
 have p1:=ok.p1;have p2:=ok.p2;have l1:=ok.l1;have l2:=ok.l2
 have hal:=ym ok
 have hac:=vb s ok
 obtain ⟨P0,hP0⟩ : ∃ P0 : Nat,s.places = P0:=⟨s.places.toNat,by omega⟩
 obtain ⟨L0,hL0⟩ : ∃ L0 : Nat,s.last = L0:=⟨s.last.toNat,by omega⟩
 refine Comp.bodyW (T:=tab) (res:=[.tmp 2]) za [] Tryz.func56 rfl (by kernel_rfl) Tryz.ntmps56 rfl (by simp only [List.length_cons,List.length_nil];decide) (by simp only [lowL,zG];rfl) ?_
 refine Walk.seq (Walk.run za [] ?_)
 conv=>whnf
 refine Walk.seq (Walk.run za [] ?_)
 conv=>whnf
 refine Walk.seq (Walk.run za [] ?_)
 conv=>whnf
 refine xn_len (repn_len _ _).symm ?_
 conv=>whnf
 refine zaK rfl ?_
 conv=>whnf
 refine Walk.seq (Walk.run za [] ?_)
 conv=>whnf
 refine Walk.seq (Walk.run za [] ?_)
 conv=>whnf
 refine Walk.know [(1,_),(2,_),(3,_),(5,_)] ⟨rfl,rfl,rfl,rfl,trivial⟩ ?_
 refine Walk.run za [] ?_
 conv=>whnf
 skip
 refine Walk.loopK za [] [(1,_),(2,_),(3,_),(5,_),(15,_)] ⟨rfl,rfl,rfl,rfl,rfl,trivial⟩ (fun g : Nat × WSt=>g.1 <= P0 /\ WInv s 0 g.2 /\ Dn s g.1 0 0 g.2) (fun g=>[(16,natA g.1)]) (fun g=>wH s g.2) (fun g=>P0 - g.1) (0,gBeg) ⟨Nat.zero_le _,wInv_beg s,fun p m k hv h=>by have hv2 : (m : Int) <= s.last:=hv.2.1;exfalso;dsimp only at h;omega⟩ (wH_beg s) ⟨rfl,trivial⟩ ?_
 rintro ⟨p,g⟩ ⟨hp,hI,hD⟩
 dsimp only at hp hI hD ⊢
 conv=>whnf
 by_cases hlt : p < P0
 ·skip
  repeat' ((with_reducible first|refine XBr.y fun h=>?_|refine XBr.n fun h=>?_|refine XBr.dec (fun h=>?_) fun h=>?_|refine XInt.a ?_) <;> conv=>whnf)
  refine Walk.loopK za [] [(1,_),(2,_),(3,_),(5,_),(6,_),(15,_),(16,_),(24,_)] ⟨rfl,rfl,rfl,rfl,rfl,rfl,rfl,rfl,trivial⟩ (fun g : Nat × WSt=>g.1 <= L0 + 1 /\ WInv s 0 g.2 /\ Dn s p g.1 0 g.2) (fun g=>[(25,natA g.1)]) (fun g=>wH s g.2) (fun g=>L0 + 1 - g.1) (0,g) ⟨by dsimp only;omega,hI,hD⟩ rfl ⟨rfl,trivial⟩ ?_
  rintro ⟨b,g⟩ ⟨hb,hI,hD⟩
  dsimp only at hb hI hD ⊢
  conv=>whnf
  by_cases hlt2 : b < L0 + 1
  ·skip
   repeat' first|((with_reducible first|refine XBr.y fun h=>?_|refine XBr.n fun h=>?_|refine XBr.dec (fun h=>?_) fun h=>?_|refine XInt.a ?_) <;> conv=>whnf)|((refine zb.ret hac ?_);conv=>whnf)|fail
   refine Walk.loopK za [] [(1,_),(2,_),(3,_),(5,_),(6,_),(7,_),(15,_),(16,_),(24,_),(25,_),(30,_)] ⟨rfl,rfl,rfl,rfl,rfl,rfl,rfl,rfl,rfl,rfl,rfl,trivial⟩ (fun g : Nat × WSt=>g.1 <= allN s + 1 /\ WInv s 0 g.2 /\ Dn s p b g.1 g.2) (fun g=>[(31,natA g.1)]) (fun g=>wH s g.2) (fun g=>allN s + 1 - g.1) (0,g) ⟨by dsimp only;omega,hI,hD⟩ rfl ⟨rfl,trivial⟩ ?_
   rintro ⟨l,g⟩ ⟨hl,hI,hD⟩
   dsimp only at hl hI hD ⊢
   conv=>whnf
   by_cases hlt3 : l < allN s + 1
   ·obtain ⟨g',hc,i1,i2,i3⟩:=zc9 s ok _ ⟨p,L0 - b,l⟩ ⟨by show (p : Int) < s.places;omega,by show ((L0 - b : Nat) : Int) <= s.last;omega,by show l <= allN s;omega⟩ (Nat.le_refl _) g (hI.up (Nat.zero_le _))
    dsimp only at i3
    have hst : staA ⟨p,L0 - b,l⟩ = .agg [natA p,.int .i64 (s.last - b),natA l]:=by
     unfold staA natA;dsimp only;rw [show ((L0 - b : Nat) : Int) = s.last - b by omega]
    rw [hst] at hc
    have hI':=hI.back i1 i2
    have hD' : Dn s p b (l + 1) g':=fun q m k hv h=>by
     have hv2 : (m : Int) <= s.last:=hv.2.1
     by_cases e : q = p /\ m = L0 - b /\ k = l
     ·obtain ⟨rfl,rfl,rfl⟩:=e;exact i3
     ·exact i2.k q m k (hD q m k hv (by omega))
    have hla : lowL 3 [.agg [natA p,.int .i64 (s.last - b),natA l],.ptr 1 0,.pim [zF s],.ptr 2 0,.ptr 0 0] = true:=by simp only [lowL,AV.low,zG,natA];rfl
    repeat' ((with_reducible first|refine XBr.y fun h=>?_|refine XBr.n fun h=>?_|refine XBr.dec (fun h=>?_) fun h=>?_) <;> conv=>whnf)
    apply Walk.drawX za zd [] [11] (hsC [_,_]) [_,_,_,_,_,_,_,_,_,_,_,_] (by kernel_rfl) rfl
    ·skip
     repeat' first|((with_reducible first|refine XInt.a ?_|apply Chk.go|apply ChkA.go);conv=>whnf)|(with_reducible first|apply XAnd.mk|exact trivial)|(exact zg.mk rfl rfl)|(refine zb.pre [] hc rfl (yM s _) hla ?_;rintro r H' ⟨rfl,rfl⟩;exact ⟨rfl,yM s _,rfl,zg.mk rfl rfl⟩)|fail
    ·skip
     repeat' first|((with_reducible first|refine XInt.a ?_|apply Chk.go|apply ChkF.go|apply ChkB.go);conv=>whnf)|(with_reducible first|apply XAnd.mk|exact trivial)|(exact zg.mk rfl rfl)|fail
    conv=>whnf
    repeat' ((with_reducible refine XInt.a ?_);conv=>whnf)
    exact zj.go (l + 1,g') ⟨by dsimp only;omega,hI',hD'⟩ (by dsimp only;omega) rfl ⟨rfl,rfl,rfl,rfl,rfl,rfl,rfl,rfl,rfl,rfl,rfl,rfl,trivial⟩
   obtain rfl : l = allN s + 1:=by omega
   repeat' ((with_reducible first|refine XBr.y fun h=>?_|refine XBr.n fun h=>?_|refine XBr.dec (fun h=>?_) fun h=>?_|refine XInt.a ?_) <;> conv=>whnf)
   refine zj.go (b + 1,g) ⟨by dsimp only;omega,hI,fun q m k hv h=>hD q m k hv ?_⟩ (by dsimp only;omega) rfl ⟨rfl,rfl,rfl,rfl,rfl,rfl,rfl,rfl,rfl,trivial⟩
   have hv2 : (m : Int) <= s.last:=hv.2.1
   have hv3 : k <= allN s:=hv.2.2
   omega
  obtain rfl : b = L0 + 1:=by omega
  repeat' ((with_reducible first|refine XBr.y fun h=>?_|refine XBr.n fun h=>?_|refine XBr.dec (fun h=>?_) fun h=>?_|refine XInt.a ?_) <;> conv=>whnf)
  refine zj.go (p + 1,g) ⟨by dsimp only;omega,hI,fun q m k hv h=>hD q m k hv ?_⟩ (by dsimp only;omega) rfl ⟨rfl,rfl,rfl,rfl,rfl,rfl,trivial⟩
  have hv2 : (m : Int) <= s.last:=hv.2.1
  omega
 obtain rfl : p = P0:=by omega
 have he:=wH_end hI fun q m k hv=>hD q m k hv (by have hv1 : (q : Int) < s.places:=hv.1;omega)
 repeat' ((with_reducible first|refine XBr.y fun h=>?_|refine XBr.n fun h=>?_|refine XBr.dec (fun h=>?_) fun h=>?_) <;> conv=>whnf)
 exact ⟨Froz.ptr (cs:=zvs 4880 (G3 (wNum s g.D))) rfl (zvs_one _ _) (by rw [<- he];exact .low (jP _ _))⟩
end GA
end
section
namespace GA
open Go Go.RowKit Go.Proofs
def xA (p m l : Int) : AV:=.agg [.int .i64 p,.int .i64 m,.int .i64 l]
theorem xL {n : Nat} (p m l : Int) : (xA p m l).low n = true:=rfl
def sttE (s : Sn) (p m l : Int) : Int:=if snE s ≠ 0 then snE s else if plB s p = false then 1 else if inZ m 0 s.last = false \/ inZ l 1 (allN s) = false then 3 else 0
theorem yy {s : Sn} {p m l : Int} : sttE s p m l = 0 ↔ SnOk s /\ (0 <= p /\ p < s.places) /\ (0 <= m /\ m <= s.last) /\ 1 <= l /\ l <= allN s:=by
 unfold sttE
 by_cases h : snE s = 0
 ·rw [if_neg (fun e=>e h)]
  have ok:=zO.1 h
  by_cases h1 : plB s p = false
  ·rw [if_pos h1]
   unfold plB at h1
   rw [<- Bool.not_eq_true,zr] at h1
   exact ⟨fun e=>absurd e (by decide),fun e=>absurd (by omega) h1⟩
  ·rw [if_neg h1]
   have h1' : plB s p = true:=by simpa using h1
   unfold plB at h1'
   rw [zr] at h1'
   by_cases h2 : inZ m 0 s.last = false \/ inZ l 1 (allN s) = false
   ·rw [if_pos h2]
    refine ⟨fun e=>absurd e (by decide),fun e=>?_⟩
    rcases h2 with h2 | h2 <;> (rw [<- Bool.not_eq_true,zr] at h2;omega)
   ·rw [if_neg h2]
    have h3 : inZ m 0 s.last = true:=by cases h : inZ m 0 s.last with | true=>rfl | false=>exact absurd (.inl h) h2
    have h4 : inZ l 1 (allN s) = true:=by cases h : inZ l 1 (allN s) with | true=>rfl | false=>exact absurd (.inr h) h2
    rw [zr] at h3 h4
    exact ⟨fun _=>⟨ok,by omega,by omega,by omega⟩,fun _=>rfl⟩
 ·rw [if_pos h]
  exact ⟨fun e=>absurd e h,fun e=>absurd (zO.2 e.1) h⟩
def stN (p m l : Int) : Sta:=⟨p.toNat,m.toNat,l.toNat⟩
theorem v9 {p m l : Int} (h1 : 0 <= p) (h2 : 0 <= m) (h3 : 0 <= l) : xA p m l = staA (stN p m l):=by
 unfold xA staA stN natA;dsimp only
 rw [Int.toNat_of_nonneg h1,Int.toNat_of_nonneg h2,Int.toNat_of_nonneg h3]
theorem jq (s : Sn) (hb : SnB s) (p m l : Int) (h : sttE s p m l ≠ 0) : Comp Tryz.prog 103 [snA s,xA p m l] (.tup [.nilp,.int .i64 (sttE s p m l)]):=by
 by_cases h0 : snE s = 0
 ·have ok:=zO.1 h0
  have ho:=z4 s hb ok
  have hpl:=vp s p ok.p1 ok.p2
  have hmn:=yU s m
  have hst:=f9 s ok l
  have he : sttE s p m l = if plB s p = false then 1 else if inZ m 0 s.last = false \/ inZ l 1 (allN s) = false then 3 else 0:=by unfold sttE;rw [if_neg (fun e=>e h0)]
  rw [he] at h ⊢
  cases h1 : plB s p with
  | false =>
    rw [h1] at hpl
    rw [if_pos rfl]
    refine Comp.body (T:=tab) (res:=[.tmp 4,.tmp 5]) za [] Tryz.func103 rfl (by kernel_rfl) Tryz.ntmps103 rfl (by simp only [List.length_cons,List.length_nil];decide) (by simp only [lowL,snL,xL];rfl) ?_;conv=>whnf
    repeat' first|((with_reducible first|apply XBr.ff|refine XBr.y2 fun h=>?_|refine XBr.n2 fun h=>?_|refine XBr.bne (fun h=>?_) fun h=>?_) <;> conv=>whnf) | with_reducible apply XBr.not|((first|refine zb.ret ho ?_|refine zb.ret hpl ?_);conv=>whnf)|fail
    exact ⟨.low rfl⟩
  | true =>
    rw [h1] at hpl h
    rw [if_neg (by simp)] at h ⊢
    have h2 : inZ m 0 s.last = false \/ inZ l 1 (allN s) = false:=by
     refine Classical.byContradiction fun e=>h ?_
     rw [if_neg e]
    rw [if_pos h2]
    generalize inZ m 0 s.last = r1 at h2 hmn
    generalize inZ l 1 (allN s) = r2 at h2 hst
    cases r1
    ·refine Comp.body (T:=tab) (res:=[.tmp 4,.tmp 5]) za [] Tryz.func103 rfl (by kernel_rfl) Tryz.ntmps103 rfl (by simp only [List.length_cons,List.length_nil];decide) (by simp only [lowL,snL,xL];rfl) ?_;conv=>whnf
     repeat' first|((with_reducible first|apply XBr.tt|apply XBr.ff|refine XBr.y2 fun h=>?_|refine XBr.n2 fun h=>?_|refine XBr.bne (fun h=>?_) fun h=>?_) <;> conv=>whnf) | with_reducible apply XBr.not|((first|refine zb.ret ho ?_|refine zb.ret hpl ?_|refine zb.ret hmn ?_);conv=>whnf)|fail
     exact ⟨.low rfl⟩
    ·obtain rfl : r2 = false:=by simpa using h2
     refine Comp.body (T:=tab) (res:=[.tmp 4,.tmp 5]) za [] Tryz.func103 rfl (by kernel_rfl) Tryz.ntmps103 rfl (by simp only [List.length_cons,List.length_nil];decide) (by simp only [lowL,snL,xL];rfl) ?_;conv=>whnf
     repeat' first|((with_reducible first|apply XBr.tt|apply XBr.ff|refine XBr.y2 fun h=>?_|refine XBr.n2 fun h=>?_|refine XBr.bne (fun h=>?_) fun h=>?_) <;> conv=>whnf) | with_reducible apply XBr.not|((first|refine zb.ret ho ?_|refine zb.ret hpl ?_|refine zb.ret hmn ?_|refine zb.ret hst ?_);conv=>whnf)|fail
     exact ⟨.low rfl⟩
 ·have ho:=yp s hb h0
  have he : sttE s p m l = snE s:=by unfold sttE;rw [if_pos h0]
  rw [he]
  generalize snE s = e at h0 ho
  refine Comp.body (T:=tab) (res:=[.tmp 4,.tmp 5]) za [] Tryz.func103 rfl (by kernel_rfl) Tryz.ntmps103 rfl (by simp only [List.length_cons,List.length_nil];decide) (by simp only [lowL,snL,xL];rfl) ?_;conv=>whnf
  repeat' first|((with_reducible first|refine XBr.y2 fun h=>?_|refine XBr.n2 fun h=>?_|refine XBr.bne (fun h=>?_) fun h=>?_) <;> conv=>whnf)|((refine zb.ret ho ?_);conv=>whnf)|fail
  exact ⟨.low rfl⟩
theorem js (s : Sn) (hb : SnB s) (p m l : Int) (h : sttE s p m l = 0) : Comp Tryz.prog 103 [snA s,xA p m l] (.tup [zF s,.int .i64 0]):=by
 obtain ⟨ok,h1,h2,h3,h4⟩:=yy.1 h
 have ho:=z4 s hb ok
 have hpl:=vp s p ok.p1 ok.p2
 have hmn:=yU s m
 have hst:=f9 s ok l
 rw [show plB s p = true from zr.2 ⟨h1.1,by omega⟩] at hpl
 rw [zr.2 h2] at hmn
 rw [zr.2 ⟨h3,h4⟩] at hst
 refine Comp.body (T:=tab) (res:=[.tmp 4,.tmp 5]) za [] Tryz.func103 rfl (by kernel_rfl) Tryz.ntmps103 rfl (by simp only [List.length_cons,List.length_nil];decide) (by simp only [lowL,snL,xL];rfl) ?_;conv=>whnf
 repeat' first|((with_reducible first|apply XBr.tt|apply XBr.ff|refine XBr.y2 fun h=>?_|refine XBr.n2 fun h=>?_|refine XBr.bne (fun h=>?_) fun h=>?_) <;> conv=>whnf) | with_reducible apply XBr.not|((first|refine zb.ret ho ?_|refine zb.ret hpl ?_|refine zb.ret hmn ?_|refine zb.ret hst ?_);conv=>whnf)|fail
 exact ⟨.low (by show ((zF s).low 0 && true) = true;rw [zG];rfl)⟩
theorem wW (s : Sn) (hb : SnB s) (p m l : Int) (h : sttE s p m l ≠ 0) : Comp Tryz.prog 65 [snA s,xA p m l] (.tup [.bool false,.int .i64 (sttE s p m l)]):=by
 have hs:=jq s hb p m l h
 generalize sttE s p m l = e at h hs
 refine Comp.body (T:=tab) (res:=[.tmp 4,.tmp 5]) za [] Tryz.func65 rfl (by kernel_rfl) Tryz.ntmps65 rfl (by simp only [List.length_cons,List.length_nil];decide) (by simp only [lowL,snL,xL];rfl) ?_;conv=>whnf
 repeat' first|((with_reducible first|refine XBr.y2 fun h=>?_|refine XBr.n2 fun h=>?_|refine XBr.bne (fun h=>?_) fun h=>?_) <;> conv=>whnf)|((refine zb.ret hs ?_);conv=>whnf)|fail
 exact ⟨.low rfl⟩
theorem fSafe_ok (s : Sn) (hb : SnB s) (p m l : Int) (h : sttE s p m l = 0) : Comp Tryz.prog 65 [snA s,xA p m l] (.tup [.bool (zW s (stN p m l)),.int .i64 0]):=by
 have hs:=js s hb p m l h
 obtain ⟨ok,h1,h2,h3,h4⟩:=yy.1 h
 have p2:=ok.p2;have l2:=ok.l2
 have hal : allN s < 16:=by
  have h2 : 2 ^ s.truths.length <= 2 ^ 4:=Nat.pow_le_pow_right (by omega) ok.t2
  unfold allN;omega
 have hx:=v9 h1.1 h2.1 (show 0 <= l by omega)
 have hc:=qV s ok (stN p m l) (by show p.toNat < 5;omega) (by show m.toNat < 61;omega) (by show l.toNat <= 1000;omega)
 rw [<- hx] at hc
 refine Comp.body (T:=tab) (res:=[.tmp 4,.tmp 5]) za [] Tryz.func65 rfl (by kernel_rfl) Tryz.ntmps65 rfl (by simp only [List.length_cons,List.length_nil];decide) (by simp only [lowL,snL,xL];rfl) ?_;conv=>whnf
 repeat' first|((with_reducible first|refine XBr.y2 fun h=>?_|refine XBr.n2 fun h=>?_|refine XBr.bne (fun h=>?_) fun h=>?_) <;> conv=>whnf)|((first|refine zb.ret hs ?_|refine zb.ret hc ?_);conv=>whnf)|fail
 exact ⟨.low rfl⟩
def dryE (s : Sn) (p m : Int) : Int:=if snE s ≠ 0 then snE s else if plB s p = false then 1 else if inZ m 0 s.last = false then 3 else 0
theorem fDry_c (s : Sn) (hb : SnB s) (p m : Int) : Comp Tryz.prog 63 [snA s,.int .i64 p,.int .i64 m] (.tup [natA (if dryE s p m = 0 then drN s p.toNat m.toNat else 0),.int .i64 (dryE s p m)]):=by
 by_cases h0 : snE s = 0
 ·have ok:=zO.1 h0
  have p2:=ok.p2;have l2:=ok.l2
  have ho:=z4 s hb ok
  have hpl:=vp s p ok.p1 ok.p2
  have hmn:=yU s m
  have he : dryE s p m = if plB s p = false then 1 else if inZ m 0 s.last = false then 3 else 0:=by unfold dryE;rw [if_neg (fun e=>e h0)]
  cases h1 : plB s p with
  | false =>
    have he' : dryE s p m = 1:=by rw [he,h1];rfl
    rw [he',if_neg (by decide)]
    rw [h1] at hpl
    refine Comp.body (T:=tab) (res:=[.tmp 6,.tmp 7]) za [] Tryz.func63 rfl (by kernel_rfl) Tryz.ntmps63 rfl (by simp only [List.length_cons,List.length_nil];decide) (by simp only [lowL,AV.low,snL];rfl) ?_;conv=>whnf
    repeat' first|((with_reducible first|apply XBr.ff|refine XBr.y2 fun h=>?_|refine XBr.n2 fun h=>?_|refine XBr.bne (fun h=>?_) fun h=>?_) <;> conv=>whnf) | with_reducible apply XBr.not|((first|refine zb.ret ho ?_|refine zb.ret hpl ?_);conv=>whnf)|fail
    exact ⟨.low rfl⟩
  | true =>
    have h1':=h1
    unfold plB at h1'
    rw [zr] at h1'
    have he1 : dryE s p m = if inZ m 0 s.last = false then 3 else 0:=by rw [he,h1];rfl
    rw [h1] at hpl
    cases h2 : inZ m 0 s.last with
    | false =>
      have he' : dryE s p m = 3:=by rw [he1,h2];rfl
      rw [he',if_neg (by decide)]
      rw [h2] at hmn
      refine Comp.body (T:=tab) (res:=[.tmp 6,.tmp 7]) za [] Tryz.func63 rfl (by kernel_rfl) Tryz.ntmps63 rfl (by simp only [List.length_cons,List.length_nil];decide) (by simp only [lowL,AV.low,snL];rfl) ?_;conv=>whnf
      repeat' first|((with_reducible first|apply XBr.tt|apply XBr.ff|refine XBr.y2 fun h=>?_|refine XBr.n2 fun h=>?_|refine XBr.bne (fun h=>?_) fun h=>?_) <;> conv=>whnf) | with_reducible apply XBr.not|((first|refine zb.ret ho ?_|refine zb.ret hpl ?_|refine zb.ret hmn ?_);conv=>whnf)|fail
      exact ⟨.low rfl⟩
    | true =>
      have h2':=h2
      rw [zr] at h2'
      have he' : dryE s p m = 0:=by rw [he1,h2];rfl
      rw [he',if_pos rfl]
      rw [h2] at hmn
      obtain ⟨q,rfl⟩ : ∃ q : Nat,p = q:=⟨p.toNat,by omega⟩
      obtain ⟨k,rfl⟩ : ∃ k : Nat,m = k:=⟨m.toNat,by omega⟩
      rw [Int.toNat_natCast,Int.toNat_natCast]
      refine Comp.body (T:=tab) (res:=[.tmp 6,.tmp 7]) za [] Tryz.func63 rfl (by kernel_rfl) Tryz.ntmps63 rfl (by simp only [List.length_cons,List.length_nil];decide) (by simp only [lowL,AV.low,snL];rfl) ?_;conv=>whnf
      repeat' first|((with_reducible first|apply XBr.tt|refine XBr.y2 fun h=>?_|refine XBr.n2 fun h=>?_|refine XBr.bne (fun h=>?_) fun h=>?_) <;> conv=>whnf) | with_reducible apply XBr.not|((first|refine zb.ret ho ?_|refine zb.ret hpl ?_|refine zb.ret hmn ?_|refine XArr.dryP q rfl (by omega) ?_|refine XArr.dryM k rfl (by omega) (by omega) ?_);conv=>whnf)|fail
      exact ⟨.low rfl⟩
 ·have ho:=yp s hb h0
  have he : dryE s p m = snE s:=by unfold dryE;rw [if_pos h0]
  rw [he,if_neg h0]
  generalize snE s = e at h0 ho
  refine Comp.body (T:=tab) (res:=[.tmp 6,.tmp 7]) za [] Tryz.func63 rfl (by kernel_rfl) Tryz.ntmps63 rfl (by simp only [List.length_cons,List.length_nil];decide) (by simp only [lowL,AV.low,snL];rfl) ?_;conv=>whnf
  repeat' first|((with_reducible first|refine XBr.y2 fun h=>?_|refine XBr.n2 fun h=>?_|refine XBr.bne (fun h=>?_) fun h=>?_) <;> conv=>whnf)|((refine zb.ret ho ?_);conv=>whnf)|fail
  exact ⟨.low rfl⟩
def seenE (s : Sn) (p l : Int) : Int:=if snE s ≠ 0 then snE s else if plB s p = false then 1 else if inZ l 1 (allN s) = false then 3 else 0
theorem fSeen_c (s : Sn) (hb : SnB s) (p l : Int) : Comp Tryz.prog 64 [snA s,.int .i64 p,.int .i64 l] (.tup [nsA (if seenE s p l = 0 then zC s p.toNat l.toNat else []),.int .i64 (seenE s p l)]):=by
 by_cases h0 : snE s = 0
 ·have ok:=zO.1 h0
  have p2:=ok.p2
  have hal : allN s < 16:=by
   have h2 : 2 ^ s.truths.length <= 2 ^ 4:=Nat.pow_le_pow_right (by omega) ok.t2
   unfold allN;omega
  have ho:=z4 s hb ok
  have hpl:=vp s p ok.p1 ok.p2
  have hst:=f9 s ok l
  have he : seenE s p l = if plB s p = false then 1 else if inZ l 1 (allN s) = false then 3 else 0:=by unfold seenE;rw [if_neg (fun e=>e h0)]
  cases h1 : plB s p with
  | false =>
    have he' : seenE s p l = 1:=by rw [he,h1];rfl
    rw [he',if_neg (by decide)]
    rw [h1] at hpl
    refine Comp.body (T:=tab) (res:=[.tmp 6,.tmp 7]) za [] Tryz.func64 rfl (by kernel_rfl) Tryz.ntmps64 rfl (by simp only [List.length_cons,List.length_nil];decide) (by simp only [lowL,AV.low,snL];rfl) ?_;conv=>whnf
    repeat' first|((with_reducible first|apply XBr.ff|refine XBr.y2 fun h=>?_|refine XBr.n2 fun h=>?_|refine XBr.bne (fun h=>?_) fun h=>?_) <;> conv=>whnf) | with_reducible apply XBr.not|((first|refine zb.ret ho ?_|refine zb.ret hpl ?_);conv=>whnf)|fail
    exact ⟨.low rfl⟩
  | true =>
    have h1':=h1
    unfold plB at h1'
    rw [zr] at h1'
    have he1 : seenE s p l = if inZ l 1 (allN s) = false then 3 else 0:=by rw [he,h1];rfl
    rw [h1] at hpl
    cases h2 : inZ l 1 (allN s) with
    | false =>
      have he' : seenE s p l = 3:=by rw [he1,h2];rfl
      rw [he',if_neg (by decide)]
      rw [h2] at hst
      refine Comp.body (T:=tab) (res:=[.tmp 6,.tmp 7]) za [] Tryz.func64 rfl (by kernel_rfl) Tryz.ntmps64 rfl (by simp only [List.length_cons,List.length_nil];decide) (by simp only [lowL,AV.low,snL];rfl) ?_;conv=>whnf
      repeat' first|((with_reducible first|apply XBr.tt|apply XBr.ff|refine XBr.y2 fun h=>?_|refine XBr.n2 fun h=>?_|refine XBr.bne (fun h=>?_) fun h=>?_) <;> conv=>whnf) | with_reducible apply XBr.not|((first|refine zb.ret ho ?_|refine zb.ret hpl ?_|refine zb.ret hst ?_);conv=>whnf)|fail
      exact ⟨.low rfl⟩
    | true =>
      have h2':=h2
      rw [zr] at h2'
      have he' : seenE s p l = 0:=by rw [he1,h2];rfl
      rw [he',if_pos rfl]
      rw [h2] at hst
      obtain ⟨q,rfl⟩ : ∃ q : Nat,p = q:=⟨p.toNat,by omega⟩
      obtain ⟨k,rfl⟩ : ∃ k : Nat,l = k:=⟨l.toNat,by omega⟩
      rw [Int.toNat_natCast,Int.toNat_natCast]
      have hpt:=fi s ok q k (by omega) (by omega)
      generalize zC s q k = L at hpt
      refine Comp.body (T:=tab) (res:=[.tmp 6,.tmp 7]) za [] Tryz.func64 rfl (by kernel_rfl) Tryz.ntmps64 rfl (by simp only [List.length_cons,List.length_nil];decide) (by simp only [lowL,AV.low,snL];rfl) ?_;conv=>whnf
      repeat' first|((with_reducible first|apply XBr.tt|refine XBr.y2 fun h=>?_|refine XBr.n2 fun h=>?_|refine XBr.bne (fun h=>?_) fun h=>?_) <;> conv=>whnf) | with_reducible apply XBr.not|((first|refine zb.ret ho ?_|refine zb.ret hpl ?_|refine zb.ret hst ?_|refine zb.ret hpt ?_);conv=>whnf)|fail
      exact ⟨.low (by show (lowL 0 (L.map natA) && true) = true;rw [nsL];rfl)⟩
 ·have ho:=yp s hb h0
  have he : seenE s p l = snE s:=by unfold seenE;rw [if_pos h0]
  rw [he,if_neg h0]
  generalize snE s = e at h0 ho
  refine Comp.body (T:=tab) (res:=[.tmp 6,.tmp 7]) za [] Tryz.func64 rfl (by kernel_rfl) Tryz.ntmps64 rfl (by simp only [List.length_cons,List.length_nil];decide) (by simp only [lowL,AV.low,snL];rfl) ?_;conv=>whnf
  repeat' first|((with_reducible first|refine XBr.y2 fun h=>?_|refine XBr.n2 fun h=>?_|refine XBr.bne (fun h=>?_) fun h=>?_) <;> conv=>whnf)|((refine zb.ret ho ?_);conv=>whnf)|fail
  exact ⟨.low rfl⟩
end GA
end
section
namespace GA
open Go Go.RowKit Go.Proofs
def sgsA (l : List (Int × Int)) : AV:=.sl l.isEmpty (l.map sgA)
theorem fAfter_no (s : Sn) (hb : SnB s) (p m l : Int) (t : Int × Int) (h : sttE s p m l ≠ 0) : Comp Tryz.prog 75 [snA s,xA p m l,sgA t] (.tup [.sl true [],.int .i64 (sttE s p m l)]):=by
 have hs:=jq s hb p m l h
 generalize sttE s p m l = e at h hs
 refine Comp.body (T:=tab) (res:=[.tmp 6,.tmp 7]) za [] Tryz.func75 rfl (by kernel_rfl) Tryz.ntmps75 rfl (by simp only [List.length_cons,List.length_nil];decide) (by simp only [lowL,snL,xL,sgL];rfl) ?_;conv=>whnf
 repeat' first|((with_reducible first|refine XBr.y2 fun h=>?_|refine XBr.n2 fun h=>?_|refine XBr.bne (fun h=>?_) fun h=>?_) <;> conv=>whnf)|((refine zb.ret hs ?_);conv=>whnf)|fail
 exact ⟨.low rfl⟩
theorem qF {s : Sn} (ok : SnOk s) : allN s < 16:=by
 have h2 : 2 ^ s.truths.length <= 2 ^ 4:=Nat.pow_le_pow_right (by omega) ok.t2
 unfold allN;omega
theorem vL {s : Sn} {p m l : Int} (h : sttE s p m l = 0) : StOk s (stN p m l):=by
 obtain ⟨ok,h1,h2,h3,h4⟩:=yy.1 h
 have:=qF ok
 exact ⟨by show ((p.toNat : Nat) : Int) < _;omega,by show ((m.toNat : Nat) : Int) <= _;omega,by show l.toNat <= 1000;omega⟩
theorem fAfter_ok (s : Sn) (hb : SnB s) (p m l : Int) (t : Int × Int) (h : sttE s p m l = 0) (ht1 : -9223372036854775808 <= t.2) (ht2 : t.2 <= 9223372036854775807) : Comp Tryz.prog 75 [snA s,xA p m l,sgA t] (.tup [stsA (zm s (stN p m l) t),.int .i64 (if zm s (stN p m l) t = [] then 8 else 0)]):=by
 have hs:=js s hb p m l h
 obtain ⟨ok,h1,h2,h3,h4⟩:=yy.1 h
 have hx:=v9 h1.1 h2.1 (show 0 <= l by omega)
 have hc:=wq s ok (stN p m l) (vL h) t ht1 ht2
 rw [<- hx] at hc
 cases haf : zm s (stN p m l) t with
 | nil =>
   rw [haf] at hc
   rw [if_pos rfl]
   have e0 : (([] : List AV).length : Int) = 0:=rfl
   have hc' : Comp Tryz.prog 246 [zF s,xA p m l,sgA t] (.sl true []):=hc
   refine Comp.body (T:=tab) (res:=[.tmp 6,.tmp 7]) za [] Tryz.func75 rfl (by kernel_rfl) Tryz.ntmps75 rfl (by simp only [List.length_cons,List.length_nil];decide) (by simp only [lowL,snL,xL,sgL];rfl) ?_;conv=>whnf
   repeat' first|((with_reducible first|refine XBr.y1 fun h=>?_|refine XBr.n1 fun h=>?_|refine XBr.beq (fun h=>?_) fun h=>?_|refine XBr.y2 fun h=>?_|refine XBr.n2 fun h=>?_|refine XBr.bne (fun h=>?_) fun h=>?_) <;> conv=>whnf)|((first|refine zb.ret hs ?_|refine zb.ret hc' ?_);conv=>whnf)|fail
   exact ⟨.low rfl⟩
 | cons y0 L =>
   rw [haf] at hc
   rw [if_neg (by simp)]
   have e2 : (((y0 :: L).map staA).length : Int) = L.length + 1:=by rw [List.length_map,List.length_cons];omega
   have hc' : Comp Tryz.prog 246 [zF s,xA p m l,sgA t] (.sl false ((y0 :: L).map staA)):=hc
   generalize hL : (y0 :: L).map staA = M at e2 hc'
   refine Comp.body (T:=tab) (res:=[.tmp 6,.tmp 7]) za [] Tryz.func75 rfl (by kernel_rfl) Tryz.ntmps75 rfl (by simp only [List.length_cons,List.length_nil];decide) (by simp only [lowL,snL,xL,sgL];rfl) ?_;conv=>whnf
   repeat' first|((with_reducible first|refine XBr.y1 fun h=>?_|refine XBr.n1 fun h=>?_|refine XBr.beq (fun h=>?_) fun h=>?_|refine XBr.y2 fun h=>?_|refine XBr.n2 fun h=>?_|refine XBr.bne (fun h=>?_) fun h=>?_) <;> conv=>whnf)|((first|refine zb.ret hs ?_|refine zb.ret hc' ?_);conv=>whnf)|fail
   refine ⟨?_⟩
   rw [<- hL]
   exact .low (by show (lowL 0 ((y0 :: L).map staA) && true) = true;rw [yb];rfl)
theorem fSteps_no (s : Sn) (hb : SnB s) (p m l : Int) (h : sttE s p m l ≠ 0) : Comp Tryz.prog 74 [snA s,xA p m l] (.tup [.sl true [],.int .i64 (sttE s p m l)]):=by
 have hs:=jq s hb p m l h
 generalize sttE s p m l = e at h hs
 refine Comp.body (T:=tab) (res:=[.tmp 4,.tmp 5]) za [] Tryz.func74 rfl (by kernel_rfl) Tryz.ntmps74 rfl (by simp only [List.length_cons,List.length_nil];decide) (by simp only [lowL,snL,xL];rfl) ?_;conv=>whnf
 repeat' first|((with_reducible first|refine XBr.y2 fun h=>?_|refine XBr.n2 fun h=>?_|refine XBr.bne (fun h=>?_) fun h=>?_) <;> conv=>whnf)|((refine zb.ret hs ?_);conv=>whnf)|fail
 exact ⟨.low rfl⟩
theorem zaT (s : Sn) (hb : SnB s) (p m l : Int) (h : sttE s p m l = 0) : Comp Tryz.prog 74 [snA s,xA p m l] (.tup [sgsA (zT s (stN p m l)),.int .i64 0]):=by
 have hs:=js s hb p m l h
 obtain ⟨ok,h1,h2,h3,h4⟩:=yy.1 h
 have hxe:=v9 h1.1 h2.1 (show 0 <= l by omega)
 have hx:=vL h
 rw [hxe] at hs ⊢
 generalize stN p m l = x at hs hx
 clear h h1 h2 h3 h4 hxe
 have p1:=ok.p1;have p2:=ok.p2;have l1:=ok.l1;have l2:=ok.l2;have w1:=ok.w1
 have x1:=hx.p;have x2:=hx.m;have x3:=hx.l
 have hmg : mget (x.p : Int) ((keyF s).zip ((esF s s.places.toNat).map (·.2))) = some (.sl false ((waysL s x.p).map sgA)):=by
  unfold keyF;rw [vJ];exact wI s _ _ (by omega)
 have hst:=qx s x
 have hsd : zT s x = (waysL s x.p).filter fun t=>!(zm s x t).isEmpty:=rfl
 have hwl : (waysL s x.p).length <= 55:=by
  have h:=yo s x.p s.places.toNat
  have h2 : s.places.toNat * (1 + s.ways.length) <= 5 * 11:=Nat.mul_le_mul (by omega) (by omega)
  show (yc s x.p s.places.toNat).length <= 55
  omega
 have hwm:=fun t (h : t ∈ waysL s x.p)=>yn ok h
 rw [hsd]
 generalize waysL s x.p = W at hmg hwl hwm
 have e1 : ((W.map sgA).length : Int) = W.length:=by rw [List.length_map]
 refine Comp.body' (T:=tab) (res:=[.tmp 4,.tmp 5]) za [] Tryz.func74 rfl (by kernel_rfl) Tryz.ntmps74 rfl (by simp only [List.length_cons,List.length_nil];decide) (by simp only [lowL,snL,staL];rfl) ?_;conv=>whnf
 repeat' first|((with_reducible first|refine XBr.y2 fun h=>?_|refine XBr.n2 fun h=>?_|refine XBr.bne (fun h=>?_) fun h=>?_) <;> conv=>whnf)|((first|refine zb.ret hs ?_|refine zb.ret hst ?_);conv=>whnf)|fail
 refine Walk.nilcell 0 0 32 rfl rfl ?_
 refine Walk.range (own:=[]) za [(4,.sl true []),(5,.int .i64 0),(8,.ptr 0 0)] rfl ⟨rfl,rfl,rfl,trivial⟩ ?_
 intro fn
 refine zb.inl (T:=tab) (res:=[]) za [] Tryz.func264 rfl (by kernel_rfl) Tryz.ntmps264 rfl (by simp only [List.length_append,List.length_cons,List.length_nil];decide) ?_;conv=>whnf
 repeat' first|((with_reducible first|apply Chk.go|apply ChkA.go|apply ChkF.go|apply ChkB.go|apply zq.mk);conv=>whnf)|(with_reducible first|apply XAnd.mk|exact trivial)|(exact zg.mk rfl rfl)|(apply Walk.drawN (id:=0) za zd [] [] (hsU _) [_,_,_,_,_,_,_,_,_] (by kernel_rfl) rfl)|((first|refine jM.dskF ?_|refine kh.mk' hmg ?_);conv=>whnf)|fail
 refine Walk.loopGKL za [] _ [(0,_),(1,_),(2,_),(13,_),(14,_)] ⟨rfl,rfl,rfl,rfl,rfl,trivial⟩ (fun k : Nat=>k <= W.length) (fun k=>[(15,natA k)]) (fun lp k=>[.cells [.gr 1 ((W.take k).filter fun t=>!(zm s x t).isEmpty).length],.grow 32 ((W.take k).filter fun t=>!(zm s x t).isEmpty).isEmpty (((W.take k).filter fun t=>!(zm s x t).isEmpty).map sgA),.raw (.deferred (some [])),lp]) (fun k=>W.length - k) 0 (Nat.zero_le _) rfl ⟨rfl,trivial⟩ ?_ (fun _ _=>(show (4 : Nat) <= 4 from Nat.le_refl 4)) ?_
 ·intro k _
  refine ⟨fun z hz=>?_,fun z hz=>?_⟩
  ·show z.low 4 = true
   simp only [List.mem_cons,List.not_mem_nil,or_false] at hz
   rcases hz with rfl | rfl | rfl | rfl <;> first | rfl|exact zN _
  ·show z.2.low 4 = true
   simp only [List.cons_append,List.nil_append,List.mem_cons,List.not_mem_nil,or_false] at hz
   rcases hz with rfl | rfl | rfl | rfl | rfl | rfl <;> first | rfl|exact zN _|(simp only [AV.low,lowL,zG];rfl)
 intro k hk
 have hnx : k < W.length -> (W.take (k + 1)).filter (fun t=>!(zm s x t).isEmpty) = (W.take k).filter (fun t=>!(zm s x t).isEmpty) ++ if (!(zm s x (W.getD k default)).isEmpty) = true then [W.getD k default] else []:=fun h=>by
  rw [zD h,List.filter_append]
  congr 1
  by_cases e : (!(zm s x (W.getD k default)).isEmpty) = true
  ·rw [if_pos e,List.filter_cons,if_pos e];rfl
  ·rw [if_neg e,List.filter_cons,if_neg e];rfl
 have hend : k = W.length -> (W.take k).filter (fun t=>!(zm s x t).isEmpty) = W.filter fun t=>!(zm s x t).isEmpty:=fun h=>by rw [h,List.take_length]
 have hlen : ((W.take k).filter fun t=>!(zm s x t).isEmpty).length <= k:=Nat.le_trans (List.length_filter_le _ _) (by rw [List.length_take];omega)
 generalize (W.take k).filter (fun t=>!(zm s x t).isEmpty) = R at hnx hend hlen
 have hRl : (R.map sgA).length = R.length:=List.length_map _
 conv=>whnf
 by_cases hlt : k < W.length
 ·have hw:=hwm _ (zk (d:=default) hlt)
  have hfa:=wq s ok x hx (W.getD k default) (by omega) (by omega)
  have hnx:=hnx hlt
  cases haf : zm s x (W.getD k default) with
  | nil =>
    rw [haf] at hfa hnx
    have e0 : (([] : List AV).length : Int) = 0:=rfl
    have hfa' : Comp Tryz.prog 246 [zF s,staA x,sgA (W.getD k default)] (.sl true []):=hfa
    have hx' : (W.take (k + 1)).filter (fun t=>!(zm s x t).isEmpty) = R:=by rw [hnx];simp
    repeat' first|((with_reducible first|apply XBr.ff|refine XBr.y fun h=>?_|refine XBr.n fun h=>?_|refine XBr.dec (fun h=>?_) fun h=>?_|refine XInt.a ?_) <;> conv=>whnf)|((first|refine XIx.a ?_|refine zb.ret hfa' ?_);conv=>whnf)|fail
    refine zl.go (k + 1) [.cells (sgA (W.getD k default)).cells] (by omega) (by omega) ?_ ⟨rfl,rfl,rfl,rfl,rfl,rfl,trivial⟩
    show [Blk.cells [.gr 1 ((W.take (k + 1)).filter fun t=>!(zm s x t).isEmpty).length],.grow _ ((W.take (k + 1)).filter fun t=>!(zm s x t).isEmpty).isEmpty (((W.take (k + 1)).filter fun t=>!(zm s x t).isEmpty).map sgA),_,_] ++ _ = _
    rw [hx'];rfl
  | cons y0 L =>
    rw [haf] at hfa hnx
    have e2 : (((y0 :: L).map staA).length : Int) = L.length + 1:=by rw [List.length_map,List.length_cons];omega
    have hfa' : Comp Tryz.prog 246 [zF s,staA x,sgA (W.getD k default)] (.sl false ((y0 :: L).map staA)):=hfa
    have hx' : (W.take (k + 1)).filter (fun t=>!(zm s x t).isEmpty) = R ++ [W.getD k default]:=by rw [hnx];simp
    repeat' first|((with_reducible first|apply XBr.tt|refine XBr.y fun h=>?_|refine XBr.n fun h=>?_|refine XBr.dec (fun h=>?_) fun h=>?_|refine XInt.a ?_) <;> conv=>whnf) | with_reducible apply XBr.not|((first|(first|refine zh.a ?_|refine XIx.a ?_|refine zb.ret hfa' ?_)|((refine wZ.go (own:=[]) za rfl rfl (by decide) ?_);intro ρ));conv=>whnf)|fail
    refine zl.go (k + 1) [.cells (sgA (W.getD k default)).cells,.cells (sgA (W.getD k default)).cells] (by omega) (by omega) ?_ ⟨rfl,rfl,rfl,rfl,rfl,rfl,trivial⟩
    show [Blk.cells [.gr 1 ((W.take (k + 1)).filter fun t=>!(zm s x t).isEmpty).length],.grow _ ((W.take (k + 1)).filter fun t=>!(zm s x t).isEmpty).isEmpty (((W.take (k + 1)).filter fun t=>!(zm s x t).isEmpty).map sgA),_,_] ++ _ = _
    rw [hx',List.length_append,zy,List.map_append];rfl
 obtain rfl : k = W.length:=by omega
 rw [<- hend rfl]
 repeat' ((with_reducible first|refine XBr.y fun h=>?_|refine XBr.n fun h=>?_|refine XBr.dec (fun h=>?_) fun h=>?_) <;> conv=>whnf)
 exact ⟨Froz.tup (.cons (Froz.grow rfl hRl (zN _)) (.cons (.low rfl) .nil))⟩
end GA
end
section
namespace GA
open Go Go.RowKit Go.Proofs
theorem wTab_at (s : Sn) (ok : SnOk s) {p m l : Nat} (hv : vld s ⟨p,m,l⟩) : (wTab s)[976 * p + 16 * m + l]? = some (.int .i64 (zi s ⟨p,m,l⟩)):=by
 have p2:=ok.p2;have l2:=ok.l2;have hal:=ym ok
 obtain ⟨v1,v2,v3⟩:=hv
 dsimp only at v1 v2 v3
 have h:=fL (f:=AV.int .i64) (W:=4880) (F:=G3 (wNum s (vldB s))) (j:=976 * p + 16 * m + l) (by omega)
 rw [G3_at _ (by omega) (by omega),gC (zcN.2 ⟨v1,v2,v3⟩)] at h
 exact h
theorem wof_c (s : Sn) (ok : SnOk s) (x : Sta) (hv : vld s x) : Comp Tryz.prog 104 [wsA s,staA x] (.int .i64 (zi s x)):=by
 have p2:=ok.p2;have l2:=ok.l2;have hal:=ym ok
 have ha:=wTab_at s ok hv
 obtain ⟨v1,v2,v3⟩:=hv
 refine Comp.body (T:=tab) (res:=[.tmp 4]) za [] Tryz.func104 rfl (by kernel_rfl) Tryz.ntmps104 rfl (by simp only [List.length_cons,List.length_nil];decide) (by simp only [lowL,zaE,staL];rfl) ?_;conv=>whnf
 repeat' first|((with_reducible first|apply Chk.go|apply ChkA.go|apply ChkF.go|apply ChkB.go|apply zq.mk);conv=>whnf)|(with_reducible first|apply XAnd.mk|exact trivial)|(exact zg.mk rfl rfl)|(apply Walk.drawN (id:=1) za zd [] [] (hsU _) [_,_,_,_,_,_,_,_,_,_,_,_,_] (by kernel_rfl) rfl)|((first|(refine XArr.at _ (by omega) (by omega) (by rw [List.getElem?_drop,List.getElem?_drop,show (x.p : Int).toNat * 976 + ((x.m : Int).toNat * 16 + (x.l : Int).toNat * 1) = 976 * x.p + 16 * x.m + x.l by omega];exact ha) ?_)|refine XArr.pim (by omega) (by omega) ?_);conv=>whnf)|fail
 exact ⟨.low rfl⟩
def gh (s : Sn) (l b : Nat) : Bool:=zi s ⟨s.bed.toNat,s.last.toNat - b,l⟩ != -1
def kU (s : Sn) (l : Nat) : Int:=match (List.range (s.last.toNat + 1)).find? (gh s l) with | some b=>s.last - b | none=>-1
def qo (s : Sn) (l : Int) : Int:=if snE s ≠ 0 then snE s else if inZ l 1 (allN s) = false then 3 else if kU s l.toNat = -1 then 6 else 0
theorem zcH (s : Sn) (hb : SnB s) (l : Int) (h : snE s ≠ 0 \/ inZ l 1 (allN s) = false) : Comp Tryz.prog 37 [snA s,.int .i64 l] (.tup [.int .i64 0,.int .i64 (qo s l)]):=by
 by_cases h0 : snE s = 0
 ·have ok:=zO.1 h0
  have ho:=z4 s hb ok
  have hst:=f9 s ok l
  have h1 : inZ l 1 (allN s) = false:=by rcases h with h | h;exact absurd h0 h;exact h
  have he : qo s l = 3:=by unfold qo;rw [if_neg (fun e=>e h0),if_pos h1]
  rw [he]
  rw [h1] at hst
  refine Comp.body (T:=tab) (res:=[.tmp 4,.tmp 5]) za [] Tryz.func37 rfl (by kernel_rfl) Tryz.ntmps37 rfl (by simp only [List.length_cons,List.length_nil];decide) (by simp only [lowL,AV.low,snL];rfl) ?_;conv=>whnf
  skip
  refine Walk.scope za [] ?_
  conv=>whnf
  repeat' first|((with_reducible first|apply XBr.ff|refine XBr.y2 fun h=>?_|refine XBr.n2 fun h=>?_|refine XBr.bne (fun h=>?_) fun h=>?_) <;> conv=>whnf) | with_reducible apply XBr.not|((first|refine zb.ret ho ?_|refine zb.ret hst ?_);conv=>whnf)|fail
  exact ⟨.low rfl⟩
 ·have ho:=yp s hb h0
  have he : qo s l = snE s:=by unfold qo;rw [if_pos h0]
  rw [he]
  generalize snE s = e at h0 ho
  refine Comp.body (T:=tab) (res:=[.tmp 4,.tmp 5]) za [] Tryz.func37 rfl (by kernel_rfl) Tryz.ntmps37 rfl (by simp only [List.length_cons,List.length_nil];decide) (by simp only [lowL,AV.low,snL];rfl) ?_;conv=>whnf
  skip
  refine Walk.scope za [] ?_
  conv=>whnf
  repeat' first|((with_reducible first|refine XBr.y2 fun h=>?_|refine XBr.n2 fun h=>?_|refine XBr.bne (fun h=>?_) fun h=>?_) <;> conv=>whnf)|((refine zb.ret ho ?_);conv=>whnf)|fail
  exact ⟨.low rfl⟩
theorem jd {f : Nat -> Bool} {n : Nat} (h : ∀ j,j < n -> f j = false) : (List.range n).find? f = none:=by
 rw [List.find?_eq_none]
 intro j hj
 rw [h j (List.mem_range.1 hj)];simp
theorem je {f : Nat -> Bool} : ∀ {n k : Nat},k < n -> f k = true -> (∀ j,j < k -> f j = false) -> (List.range n).find? f = some k
 | n + 1,k,hk,h1,h2=>by
   rw [List.range_succ,List.find?_append]
   by_cases e : k < n
   ·rw [je e h1 h2];rfl
   ·obtain rfl : k = n:=by omega
    rw [jd h2]
    rw [Option.none_or,List.find?_cons,h1]
theorem zcZ (s : Sn) (hb : SnB s) (l : Nat) (ok : SnOk s) (h1 : 1 <= l) (h2 : l <= allN s) : Comp Tryz.prog 37 [snA s,natA l] (.tup [.int .i64 (if kU s l = -1 then 0 else kU s l),.int .i64 (if kU s l = -1 then 6 else 0)]):=by
 have ho:=z4 s hb ok
 have hst:=f9 s ok l
 have p2:=ok.p2;have l1:=ok.l1;have l2:=ok.l2;have b1:=ok.b1;have hal:=ym ok
 rw [zr.2 ⟨by omega,by omega⟩] at hst
 have hw:=jG s ok
 obtain ⟨L0,hL0⟩ : ∃ L0 : Nat,s.last = L0:=⟨s.last.toNat,by omega⟩
 refine Comp.body (T:=tab) (res:=[.tmp 4,.tmp 5]) za [] Tryz.func37 rfl (by kernel_rfl) Tryz.ntmps37 rfl (by simp only [List.length_cons,List.length_nil];decide) (by simp only [lowL,AV.low,snL];rfl) ?_;conv=>whnf
 skip
 refine Walk.scope za [] ?_
 conv=>whnf
 repeat' first|((with_reducible first|apply XBr.tt|refine XBr.y2 fun h=>?_|refine XBr.n2 fun h=>?_|refine XBr.bne (fun h=>?_) fun h=>?_) <;> conv=>whnf) | with_reducible apply XBr.not|((first|refine zb.ret ho ?_|refine zb.ret hst ?_|refine zb.ret hw ?_);conv=>whnf)|fail
 refine Walk.label ?_
 conv=>whnf
 repeat' ((with_reducible refine XInt.a ?_);conv=>whnf)
 refine Walk.loopK za [] [(1,_),(2,_),(4,_),(5,_),(8,_),(29,_)] ⟨rfl,rfl,rfl,rfl,rfl,rfl,trivial⟩ (fun k : Nat=>k <= L0 + 1 /\ ∀ j,j < k -> gh s l j = false) (fun k=>[(9,.int .i64 (-1)),(30,natA k)]) (fun _=>[]) (fun k=>L0 + 1 - k) 0 ⟨Nat.zero_le _,fun j hj=>by omega⟩ rfl ⟨rfl,rfl,trivial⟩ ?_
 rintro k ⟨hk,hs⟩
 conv=>whnf
 by_cases hlt : k < L0 + 1
 ·have hof:=wof_c s ok ⟨s.bed.toNat,s.last.toNat - k,l⟩ ⟨by show ((s.bed.toNat : Nat) : Int) < s.places;omega,by show ((s.last.toNat - k : Nat) : Int) <= s.last;omega,h2⟩
  have hst2 : staA ⟨s.bed.toNat,s.last.toNat - k,l⟩ = .agg [.int .i64 s.bed,.int .i64 (s.last - k),natA l]:=by
   unfold staA natA;dsimp only;rw [show ((s.last.toNat - k : Nat) : Int) = s.last - k by omega,Int.toNat_of_nonneg b1.1]
  rw [hst2] at hof
  have htb : gh s l k = (zi s ⟨s.bed.toNat,s.last.toNat - k,l⟩ != -1):=rfl
  generalize zi s ⟨s.bed.toNat,s.last.toNat - k,l⟩ = v at hof htb
  repeat' first|((with_reducible first|refine XBr.y fun h=>?_|refine XBr.n fun h=>?_|refine XBr.dec (fun h=>?_) fun h=>?_|refine XBr.y1 fun h=>?_|refine XBr.n1 fun h=>?_|refine XBr.beq (fun h=>?_) fun h=>?_|refine XBr.y2 fun h=>?_|refine XBr.n2 fun h=>?_|refine XBr.bne (fun h=>?_) fun h=>?_|refine XInt.a ?_) <;> conv=>whnf)|((refine zb.ret hof ?_);conv=>whnf)|fail
  ·have hf : kU s l = s.last - k:=by
    unfold kU
    rw [je (k:=k) (by omega) (by rw [htb];simpa using (show v ≠ -1 by assumption)) hs]
   rw [hf,if_neg (by omega),if_neg (by omega)]
   exact ⟨.low rfl⟩
  ·refine zj.go (k + 1) ⟨by omega,fun j hj=>?_⟩ (by omega) rfl ⟨rfl,rfl,rfl,rfl,rfl,rfl,rfl,rfl,trivial⟩
   by_cases e : j = k
   ·subst e;rw [htb];simpa using (show v = -1 by assumption)
   ·exact hs j (by omega)
 obtain rfl : k = L0 + 1:=by omega
 have hf : kU s l = -1:=by
  unfold kU
  rw [jd (fun j hj=>hs j (by omega))]
 rw [hf,if_pos rfl,if_pos rfl]
 clear hs
 repeat' ((with_reducible first|refine XBr.y fun h=>?_|refine XBr.n fun h=>?_|refine XBr.dec (fun h=>?_) fun h=>?_|refine XBr.y1 fun h=>?_|refine XBr.n1 fun h=>?_|refine XBr.beq (fun h=>?_) fun h=>?_) <;> conv=>whnf)
 exact ⟨.low rfl⟩
theorem index_sg (nl : Bool) (xs : List (Int × Int)) (t : Int × Int) (hx : xs.length <= 100000) : Comp Tryz.prog 356 [.sl nl (xs.map sgA),sgA t] (.int .i64 (idxR (fun y=>t == y) xs)):=by
 have e1 : ((xs.map sgA).length : Int) = xs.length:=by rw [List.length_map]
 refine Comp.body (T:=tab) (res:=[.tmp 4]) za [] Tryz.func356 rfl (by kernel_rfl) Tryz.ntmps356 rfl (by simp only [List.length_cons,List.length_nil];decide) (by simp only [lowL,AV.low,zN,sgL];rfl) ?_;conv=>whnf
 skip
 refine Walk.loopK za [] [(0,_),(3,_),(7,_)] ⟨rfl,rfl,rfl,trivial⟩ (fun i : Nat=>i <= xs.length /\ ∀ j,j < i -> (t == xs.getD j default) = false) (fun i=>[(8,natA i)]) (fun _=>[]) (fun i=>xs.length - i) 0 ⟨Nat.zero_le _,fun j hj=>by omega⟩ rfl ⟨rfl,trivial⟩ ?_
 rintro i ⟨hi,hs⟩
 conv=>whnf
 by_cases hlt : i < xs.length
 ·have hbe : ((t.1 == (xs.getD i default).1) && (t.2 == (xs.getD i default).2)) = (t == xs.getD i default):=rfl
  have hbe2 : (([t.1,t.2] : List Int) == [(xs.getD i default).1,(xs.getD i default).2]) = (t == xs.getD i default):=by rw [<- hbe];show (_ && (_ && true)) = _;rw [Bool.and_true]
  cases hb : t == xs.getD i default with
  | true =>
    rw [hb] at hbe2
    repeat' first|((with_reducible first|apply XBr.tt|refine XBr.y fun h=>?_|refine XBr.n fun h=>?_|refine XBr.dec (fun h=>?_) fun h=>?_|apply Chk.go|apply ChkA.go|apply ChkF.go|apply ChkB.go|apply zq.mk) <;> conv=>whnf)|(refine XIx.a ?_;conv=>whnf)|(with_reducible first|apply XAnd.mk|exact trivial)|(exact zg.mk rfl rfl)|(apply Walk.drawN (id:=4) za zd [] [] (hsU _) [_,_,_,_,_,_] (by kernel_rfl) rfl)|((refine XEqA.mk ⟨[_,_],[_,_],rfl,rfl,rfl,rfl,?_⟩);exact zg.mk (congrArg AV.bool hbe2) rfl)|fail
    refine XOut.int ?_
    simp only [idxR,km (d:=default) (i:=i) hlt hb hs]
  | false =>
    rw [hb] at hbe2
    repeat' first|((with_reducible first|apply XBr.ff|refine XBr.y fun h=>?_|refine XBr.n fun h=>?_|refine XBr.dec (fun h=>?_) fun h=>?_|refine XInt.a ?_|apply Chk.go|apply ChkA.go|apply ChkF.go|apply ChkB.go|apply zq.mk) <;> conv=>whnf)|(refine XIx.a ?_;conv=>whnf)|(with_reducible first|apply XAnd.mk|exact trivial)|(exact zg.mk rfl rfl)|(apply Walk.drawN (id:=4) za zd [] [] (hsU _) [_,_,_,_,_,_] (by kernel_rfl) rfl)|((refine XEqA.mk ⟨[_,_],[_,_],rfl,rfl,rfl,rfl,?_⟩);exact zg.mk (congrArg AV.bool hbe2) rfl)|fail
    refine zj.go (i + 1) ⟨by omega,fun j hj=>?_⟩ (by omega) rfl ⟨rfl,rfl,rfl,rfl,trivial⟩
    by_cases e : j = i
    ·subst e;exact hb
    ·exact hs j (by omega)
 obtain rfl : i = xs.length:=by omega
 have hf:=kk (d:=default) hs
 clear hs
 repeat' ((with_reducible first|refine XBr.y fun h=>?_|refine XBr.n fun h=>?_|refine XBr.dec (fun h=>?_) fun h=>?_) <;> conv=>whnf)
 refine XOut.int ?_
 simp only [idxR,hf]
theorem zct (nl : Bool) (xs : List (Int × Int)) (t : Int × Int) (hx : xs.length <= 100000) : Comp Tryz.prog 252 [.sl nl (xs.map sgA),sgA t] (.bool (xs.contains t)):=by
 have hi:=index_sg nl xs t hx
 have hc : decide (0 <= idxR (fun y=>t == y) xs) = xs.contains t:=by
  rw [Bool.eq_iff_iff,decide_eq_true_eq,kW,List.any_eq_true,List.contains_iff_mem]
  constructor
  ·rintro ⟨y,hy,e⟩;rw [beq_iff_eq] at e;subst e;exact hy
  ·intro h;exact ⟨t,h,by simp⟩
 generalize idxR (fun y=>t == y) xs = v at hi hc
 refine Comp.body (T:=tab) (res:=[.tmp 4]) za [] Tryz.func252 rfl (by kernel_rfl) Tryz.ntmps252 rfl (by simp only [List.length_cons,List.length_nil];decide) (by simp only [lowL,AV.low,zN,sgL];rfl) ?_;conv=>whnf
 repeat' ((refine zb.ret hi ?_);conv=>whnf)
 exact XOut.bool hc
def fixS (s : Sn) : Nat -> Nat -> Nat -> Nat -> List (Int × Int) -> Option (Nat × Nat × Nat × Nat)
 | p,m,a,w,[]=>some (p,m,a,w)
 | p,m,a,w,t :: l=>if (waysL s p).contains t = true /\ (m : Int) + t.2 <= s.last then
   fixS s t.1.toNat ((m : Int) + t.2).toNat (a &&& drN s t.1.toNat ((m : Int) + t.2).toNat) (if (p : Int) = s.bed /\ t.1 = p then w + 1 else w) l else none
def fixE (s : Sn) (m : Int) (l : List (Int × Int)) : Int:=
 if snE s ≠ 0 then snE s else if inZ m 0 s.last = false then 3 else if fixS s s.home.toNat m.toNat (drN s s.home.toNat m.toNat) 0 l = none then 8 else 0
def fixR (s : Sn) (m : Int) (l : List (Int × Int)) : Nat × Nat:=
 match fixS s s.home.toNat m.toNat (drN s s.home.toNat m.toNat) 0 l with
 | some (p,_,a,w)=>(if (p : Int) = s.home then a else 0,w)
 | none=>(0,0)
theorem fFixed_no (s : Sn) (hb : SnB s) (m : Int) (nl : Bool) (l : List (Int × Int)) (h : snE s ≠ 0 \/ inZ m 0 s.last = false) : Comp Tryz.prog 84 [snA s,.int .i64 m,.sl nl (l.map sgA)] (.tup [.int .i64 0,.int .i64 0,.int .i64 (fixE s m l)]):=by
 by_cases h0 : snE s = 0
 ·have ok:=zO.1 h0
  have ho:=z4 s hb ok
  have hmn:=yU s m
  have h1 : inZ m 0 s.last = false:=by rcases h with h | h;exact absurd h0 h;exact h
  have he : fixE s m l = 3:=by unfold fixE;rw [if_neg (fun e=>e h0),if_pos h1]
  rw [he]
  rw [h1] at hmn
  refine Comp.body (T:=tab) (res:=[.tmp 6,.tmp 7,.tmp 8]) za [] Tryz.func84 rfl (by kernel_rfl) Tryz.ntmps84 rfl (by simp only [List.length_cons,List.length_nil];decide) (by simp only [lowL,AV.low,snL,zN];rfl) ?_;conv=>whnf
  repeat' first|((with_reducible first|apply XBr.ff|refine XBr.y2 fun h=>?_|refine XBr.n2 fun h=>?_|refine XBr.bne (fun h=>?_) fun h=>?_) <;> conv=>whnf) | with_reducible apply XBr.not|((first|refine zb.ret ho ?_|refine zb.ret hmn ?_);conv=>whnf)|fail
  exact ⟨.low rfl⟩
 ·have ho:=yp s hb h0
  have he : fixE s m l = snE s:=by unfold fixE;rw [if_pos h0]
  rw [he]
  generalize snE s = e at h0 ho
  refine Comp.body (T:=tab) (res:=[.tmp 6,.tmp 7,.tmp 8]) za [] Tryz.func84 rfl (by kernel_rfl) Tryz.ntmps84 rfl (by simp only [List.length_cons,List.length_nil];decide) (by simp only [lowL,AV.low,snL,zN];rfl) ?_;conv=>whnf
  repeat' first|((with_reducible first|refine XBr.y2 fun h=>?_|refine XBr.n2 fun h=>?_|refine XBr.bne (fun h=>?_) fun h=>?_) <;> conv=>whnf)|((refine zb.ret ho ?_);conv=>whnf)|fail
  exact ⟨.low rfl⟩
theorem za2 (s : Sn) (hb : SnB s) (ok : SnOk s) (m0 : Nat) (hm0 : (m0 : Int) <= s.last) (nl : Bool) (l : List (Int × Int)) (hl : l.length <= 100000) : Comp Tryz.prog 84 [snA s,natA m0,.sl nl (l.map sgA)] (.tup [natA (fixR s m0 l).1,natA (fixR s m0 l).2,.int .i64 (if fixS s s.home.toNat m0 (drN s s.home.toNat m0) 0 l = none then 8 else 0)]):=by
 have p1:=ok.p1;have p2:=ok.p2;have l1:=ok.l1;have l2:=ok.l2;have w1:=ok.w1;have h1:=ok.h1
 have ho:=z4 s hb ok
 have hmn:=yU s m0
 rw [zr.2 ⟨by omega,hm0⟩] at hmn
 have e1 : ((l.map sgA).length : Int) = l.length:=by rw [List.length_map]
 obtain ⟨h0,hh0⟩ : ∃ h0 : Nat,s.home = h0:=⟨s.home.toNat,by omega⟩
 have hfr : fixR s m0 l = match fixS s h0 m0 (drN s h0 m0) 0 l with | some (p,_,a,w)=>(if (p : Int) = s.home then a else 0,w) | none=>(0,0):=by unfold fixR;rw [hh0,Int.toNat_natCast,Int.toNat_natCast]
 rw [show s.home.toNat = h0 by omega]
 refine Comp.body (T:=tab) (res:=[.tmp 6,.tmp 7,.tmp 8]) za [] Tryz.func84 rfl (by kernel_rfl) Tryz.ntmps84 rfl (by simp only [List.length_cons,List.length_nil];decide) (by simp only [lowL,AV.low,snL,zN];rfl) ?_;conv=>whnf
 repeat' first|((with_reducible first|apply XBr.tt|refine XBr.y2 fun h=>?_|refine XBr.n2 fun h=>?_|refine XBr.bne (fun h=>?_) fun h=>?_) <;> conv=>whnf) | with_reducible apply XBr.not|((first|refine zb.ret ho ?_|refine zb.ret hmn ?_|refine XArr.dryP h0 hh0 (by omega) ?_|refine XArr.dryM m0 rfl (by omega) (by omega) ?_);conv=>whnf)|fail
 refine Walk.loopGK za [] [(3,_),(9,_),(37,_),(38,_)] ⟨rfl,rfl,rfl,rfl,trivial⟩ (fun g : Nat × Nat × Nat × Nat × Nat=>g.1 <= l.length /\ (g.2.1 : Int) < s.places /\ (g.2.2.1 : Int) <= s.last /\ g.2.2.2.1 < 16 /\ g.2.2.2.2 <= g.1 /\ fixS s h0 m0 (drN s h0 m0) 0 l = fixS s g.2.1 g.2.2.1 g.2.2.2.1 g.2.2.2.2 (l.drop g.1)) (fun g=>[(1,natA g.2.2.1),(6,natA g.2.2.2.1),(7,natA g.2.2.2.2),(8,.int .i64 0),(10,natA g.2.1),(39,natA g.1)]) (fun _=>[]) (fun g=>l.length - g.1) (0,h0,m0,drN s h0 m0,0) ⟨Nat.zero_le _,by dsimp only;omega,hm0,drN_lt ok _ _,Nat.le_refl _,rfl⟩ rfl ⟨rfl,rfl,rfl,rfl,congrArg (fun z=>some (AV.int .i64 z)) hh0,rfl,trivial⟩ ?_ (fun _ _=>Nat.le_refl _) ?_
 ·intro g _
  refine ⟨by simp,fun z hz=>?_⟩
  simp only [List.cons_append,List.nil_append,List.mem_cons,List.not_mem_nil,or_false] at hz
  rcases hz with rfl | rfl | rfl | rfl | rfl | rfl | rfl | rfl | rfl | rfl <;> first | rfl|exact snCL s|exact zG s|exact zN _
 rintro ⟨k,p,m,a,w⟩ ⟨hk,hp,hm,ha,hw,hs⟩
 dsimp only at hk hp hm ha hw hs ⊢
 conv=>whnf
 by_cases hlt : k < l.length
 ·rw [kj hlt,fixS] at hs
  have hct:=zct false (waysL s p) (l.getD k default) (by
   have h:=yo s p s.places.toNat
   have h2 : s.places.toNat * (1 + s.ways.length) <= 5 * 11:=Nat.mul_le_mul (by omega) (by omega)
   show (yc s p s.places.toNat).length <= 100000
   omega)
  have hmg : mget (p : Int) ((keyF s).zip ((esF s s.places.toNat).map (·.2))) = some (.sl false ((waysL s p).map sgA)):=by
   unfold keyF;rw [vJ];exact wI s _ _ (by omega)
  cases hc : (waysL s p).contains (l.getD k default) with
  | false =>
    rw [hc] at hct hs
    rw [if_neg (by simp)] at hs
    repeat' first|((with_reducible first|apply XBr.tt|apply XBr.ff|refine XBr.y fun h=>?_|refine XBr.n fun h=>?_|refine XBr.dec (fun h=>?_) fun h=>?_|apply Chk.go|apply ChkA.go|apply ChkF.go|apply ChkB.go|apply zq.mk) <;> conv=>whnf)|(refine XIx.a ?_;conv=>whnf)|(with_reducible first|apply XBr.not|apply XAnd.mk|exact trivial)|(exact zg.mk rfl rfl)|(apply Walk.drawN (id:=11) za zd [] [] (hsU _) [_,_,_,_,_,_,_,_,_,_,_,_,_,_,_,_,_,_] (by kernel_rfl) rfl)|((first|refine jM.dskF ?_|refine kh.mk' hmg ?_|refine zb.ret hct ?_);conv=>whnf)|fail
    rw [hfr,hs]
    exact ⟨.low rfl⟩
  | true =>
    rw [hc] at hct hs
    have hwy:=yn ok (List.contains_iff_mem.1 hc)
    by_cases hle : (m : Int) + (l.getD k default).2 <= s.last
    ·rw [if_pos ⟨rfl,hle⟩] at hs
     obtain ⟨q,hq⟩ : ∃ q : Nat,(l.getD k default).1 = q:=⟨(l.getD k default).1.toNat,by omega⟩
     obtain ⟨m',hm'⟩ : ∃ m' : Nat,(m : Int) + (l.getD k default).2 = m':=⟨((m : Int) + (l.getD k default).2).toNat,by omega⟩
     rw [hm',Int.toNat_natCast,hq,Int.toNat_natCast] at hs
     have hand : iand .i64 (a : Int) (drN s q m' : Int) = ((a &&& drN s q m' : Nat) : Int):=fI (by omega) (by have:=drN_lt ok q m';omega)
     have hal : a &&& drN s q m' <= a:=Nat.and_le_left
     by_cases c1 : (p : Int) = s.bed
     ·by_cases c2 : (l.getD k default).1 = (p : Int)
      ·rw [if_pos ⟨c1,by omega⟩] at hs
       repeat' first|((with_reducible first|apply XBr.tt|refine XBr.y fun h=>?_|refine XBr.n fun h=>?_|refine XBr.dec (fun h=>?_) fun h=>?_|refine XBr.y1 fun h=>?_|refine XBr.n1 fun h=>?_|refine XBr.beq (fun h=>?_) fun h=>?_|refine XInt.a ?_|apply Chk.go|apply ChkA.go|apply ChkF.go|apply ChkB.go|apply zq.mk) <;> conv=>whnf)|(refine XIx.a ?_;conv=>whnf)|(with_reducible first|apply XBr.not|apply XAnd.mk|exact trivial)|(exact zg.mk rfl rfl)|(apply Walk.drawN (id:=11) za zd [] [] (hsU _) [_,_,_,_,_,_,_,_,_,_,_,_,_,_,_,_,_,_] (by kernel_rfl) rfl)|(apply Walk.drawN (id:=15) za zd [] [] (hsU _) [_,_,_,_,_,_,_,_] (by kernel_rfl) rfl)|((first|refine jM.dskF ?_|refine kh.mk' hmg ?_|refine zb.ret hct ?_|refine XArr.dryP q hq (by omega) ?_|refine XArr.dryM m' hm' (by omega) (by omega) ?_);conv=>whnf)|fail
       exact zl.go (k + 1,q,m',a &&& drN s q m',w + 1) [.cells (sgA (l.getD k default)).cells] ⟨by dsimp only;omega,by dsimp only;omega,by dsimp only;omega,by dsimp only;omega,by dsimp only;omega,hs⟩ (by dsimp only;omega) rfl ⟨rfl,rfl,rfl,rfl,congrArg (fun z=>some (AV.int .i64 z)) hm',congrArg (fun z=>some (AV.int .i64 z)) hand,rfl,rfl,congrArg (fun z=>some (AV.int .i64 z)) hq,rfl,trivial⟩
      ·rw [if_neg (fun h=>c2 (by omega))] at hs
       repeat' first|((with_reducible first|apply XBr.tt|refine XBr.y fun h=>?_|refine XBr.n fun h=>?_|refine XBr.dec (fun h=>?_) fun h=>?_|refine XBr.y1 fun h=>?_|refine XBr.n1 fun h=>?_|refine XBr.beq (fun h=>?_) fun h=>?_|refine XInt.a ?_|apply Chk.go|apply ChkA.go|apply ChkF.go|apply ChkB.go|apply zq.mk) <;> conv=>whnf)|(refine XIx.a ?_;conv=>whnf)|(with_reducible first|apply XBr.not|apply XAnd.mk|exact trivial)|(exact zg.mk rfl rfl)|(apply Walk.drawN (id:=11) za zd [] [] (hsU _) [_,_,_,_,_,_,_,_,_,_,_,_,_,_,_,_,_,_] (by kernel_rfl) rfl)|(apply Walk.drawN (id:=15) za zd [] [] (hsU _) [_,_,_,_,_,_,_,_] (by kernel_rfl) rfl)|((first|refine jM.dskF ?_|refine kh.mk' hmg ?_|refine zb.ret hct ?_|refine XArr.dryP q hq (by omega) ?_|refine XArr.dryM m' hm' (by omega) (by omega) ?_);conv=>whnf)|fail
       exact zl.go (k + 1,q,m',a &&& drN s q m',w) [.cells (sgA (l.getD k default)).cells] ⟨by dsimp only;omega,by dsimp only;omega,by dsimp only;omega,by dsimp only;omega,by dsimp only;omega,hs⟩ (by dsimp only;omega) rfl ⟨rfl,rfl,rfl,rfl,congrArg (fun z=>some (AV.int .i64 z)) hm',congrArg (fun z=>some (AV.int .i64 z)) hand,rfl,rfl,congrArg (fun z=>some (AV.int .i64 z)) hq,rfl,trivial⟩
     ·rw [if_neg (fun h=>c1 h.1)] at hs
      repeat' first|((with_reducible first|apply XBr.tt|apply XBr.ff|refine XBr.y fun h=>?_|refine XBr.n fun h=>?_|refine XBr.dec (fun h=>?_) fun h=>?_|refine XBr.y1 fun h=>?_|refine XBr.n1 fun h=>?_|refine XBr.beq (fun h=>?_) fun h=>?_|refine XInt.a ?_|apply Chk.go|apply ChkA.go|apply ChkF.go|apply ChkB.go|apply zq.mk) <;> conv=>whnf)|(refine XIx.a ?_;conv=>whnf)|(with_reducible first|apply XBr.not|apply XAnd.mk|exact trivial)|(exact zg.mk rfl rfl)|(apply Walk.drawN (id:=11) za zd [] [] (hsU _) [_,_,_,_,_,_,_,_,_,_,_,_,_,_,_,_,_,_] (by kernel_rfl) rfl)|(apply Walk.drawN (id:=15) za zd [] [] (hsU _) [_,_,_,_,_,_,_,_] (by kernel_rfl) rfl)|((first|refine jM.dskF ?_|refine kh.mk' hmg ?_|refine zb.ret hct ?_|refine XArr.dryP q hq (by omega) ?_|refine XArr.dryM m' hm' (by omega) (by omega) ?_);conv=>whnf)|fail
      exact zl.go (k + 1,q,m',a &&& drN s q m',w) [.cells (sgA (l.getD k default)).cells] ⟨by dsimp only;omega,by dsimp only;omega,by dsimp only;omega,by dsimp only;omega,by dsimp only;omega,hs⟩ (by dsimp only;omega) rfl ⟨rfl,rfl,rfl,rfl,congrArg (fun z=>some (AV.int .i64 z)) hm',congrArg (fun z=>some (AV.int .i64 z)) hand,rfl,rfl,congrArg (fun z=>some (AV.int .i64 z)) hq,rfl,trivial⟩
    ·rw [if_neg (fun h=>hle h.2)] at hs
     repeat' first|((with_reducible first|apply XBr.tt|refine XBr.y fun h=>?_|refine XBr.n fun h=>?_|refine XBr.dec (fun h=>?_) fun h=>?_|refine XInt.a ?_|apply Chk.go|apply ChkA.go|apply ChkF.go|apply ChkB.go|apply zq.mk) <;> conv=>whnf)|(refine XIx.a ?_;conv=>whnf)|(with_reducible first|apply XBr.not|apply XAnd.mk|exact trivial)|(exact zg.mk rfl rfl)|(apply Walk.drawN (id:=11) za zd [] [] (hsU _) [_,_,_,_,_,_,_,_,_,_,_,_,_,_,_,_,_,_] (by kernel_rfl) rfl)|((first|refine jM.dskF ?_|refine kh.mk' hmg ?_|refine zb.ret hct ?_);conv=>whnf)|fail
     rw [hfr,hs]
     exact ⟨.low rfl⟩
 obtain rfl : k = l.length:=by omega
 rw [List.drop_length,fixS] at hs
 have hfr2 : fixR s m0 l = (if (p : Int) = s.home then a else 0,w):=by rw [hfr,hs]
 by_cases hph : (p : Int) = s.home
 ·rw [if_pos hph] at hfr2
  repeat' ((with_reducible first|refine XBr.y fun h=>?_|refine XBr.n fun h=>?_|refine XBr.dec (fun h=>?_) fun h=>?_|refine XBr.y2 fun h=>?_|refine XBr.n2 fun h=>?_|refine XBr.bne (fun h=>?_) fun h=>?_) <;> conv=>whnf)
  rw [hfr2,hs]
  exact ⟨.low rfl⟩
 ·rw [if_neg hph] at hfr2
  repeat' ((with_reducible first|refine XBr.y fun h=>?_|refine XBr.n fun h=>?_|refine XBr.dec (fun h=>?_) fun h=>?_|refine XBr.y2 fun h=>?_|refine XBr.n2 fun h=>?_|refine XBr.bne (fun h=>?_) fun h=>?_) <;> conv=>whnf)
  rw [hfr2,hs]
  exact ⟨.low rfl⟩
end GA
end
section
namespace GA
open Go Go.RowKit Go.Proofs
abbrev Rs:=Bool × List Rw
def rsT (r : Rs) : AV:=.sl r.1 (r.2.map rwA)
theorem rsTL {n : Nat} (r : Rs) : (rsT r).low n = true:=yP (n:=n) r.2
theorem zZ {n : Nat} (xs : List Rs) : lowL n (xs.map rsT) = true:=yr rsTL xs
def tbN (T : List Rs) (y : Sta) : Int:=(((T.getD y.p default).2.getD y.m default).2).getD y.l default
structure TbOk (s : Sn) (T : List Rs) : Prop where
 a : (T.length : Int) = s.places
 b : ∀ p,p < T.length -> ((T.getD p default).2.length : Int) = s.last + 1
 c : ∀ p m,p < T.length -> m < (T.getD p default).2.length -> ((T.getD p default).2.getD m default).2.length = allN s + 1
 d : ∀ p m l,p < T.length -> m < (T.getD p default).2.length -> l < ((T.getD p default).2.getD m default).2.length -> -1 <= tbN T ⟨p,m,l⟩ /\ tbN T ⟨p,m,l⟩ <= 60
theorem TbOk.at {s : Sn} {T : List Rs} (h : TbOk s T) {y : Sta} (hy : vld s y) : y.p < T.length /\ y.m < (T.getD y.p default).2.length /\ y.l < ((T.getD y.p default).2.getD y.m default).2.length /\ -1 <= tbN T y /\ tbN T y <= 60:=by
 obtain ⟨v1,v2,v3⟩:=hy
 have h1:=h.a
 have h2 : y.p < T.length:=by omega
 have h3:=h.b _ h2
 have h4 : y.m < (T.getD y.p default).2.length:=by omega
 have h5:=h.c _ _ h2 h4
 have h6 : y.l < ((T.getD y.p default).2.getD y.m default).2.length:=by omega
 exact ⟨h2,h4,h6,h.d _ _ _ h2 h4 h6⟩
theorem zcq (s : Sn) (nt : Bool) (T : List Rs) (h : TbOk s T) (y : Sta) (hy : vld s y) : Comp Tryz.prog 363 [staA y,.pim [.sl nt (T.map rsT)]] (.int .i64 (tbN T y)):=by
 obtain ⟨h1,h2,h3,h4,h5⟩:=h.at hy
 have e1 : ((T.map rsT).length : Int) = T.length:=by rw [List.length_map]
 have e2 : (((T.getD y.p default).2.map rwA).length : Int) = (T.getD y.p default).2.length:=by rw [List.length_map]
 have e3 : ((ints ((T.getD y.p default).2.getD y.m default).2).length : Int) = ((T.getD y.p default).2.getD y.m default).2.length:=by rw [zK]
 refine Comp.body (T:=tab) (res:=[.tmp 3]) za [] Tryz.func363 rfl (by kernel_rfl) Tryz.ntmps363 rfl (by simp only [List.length_cons,List.length_nil];decide) (by simp only [lowL,AV.low,staL,zZ];rfl) ?_;conv=>whnf
 repeat' first|((with_reducible first|apply Chk.go|apply ChkA.go|apply ChkF.go|apply ChkB.go|apply zq.mk);conv=>whnf)|(refine XIx.a ?_;conv=>whnf)|(with_reducible first|apply XAnd.mk|exact trivial)|(exact zg.mk rfl rfl)|(apply Walk.drawN (id:=1) za zd [] [] (hsU _) [_,_,_,_,_,_,_,_,_,_,_,_,_,_] (by kernel_rfl) rfl)|fail
 exact XOut.int rfl
theorem gained_tb (nt : Bool) (T : List Rs) (s : Sn) (f : Sta -> Int) (x : Sta) (t : Int × Int) (nl : Bool) (y0 : Sta) (l : List Sta) (hl : l.length <= 100) (hc : lowL 0 [(AV.fn 363 [.pim [.sl nt (T.map rsT)]])] = true) (hn : ∀ y ∈ y0 :: l,Comp Tryz.prog 363 [staA y,.pim [.sl nt (T.map rsT)]] (.int .i64 (f y))) (hb : ∀ y ∈ y0 :: l,-1 <= f y /\ f y <= 100) :
  Comp Tryz.prog 107 [zF s,staA x,sgA t,.sl nl ((y0 :: l).map staA),(AV.fn 363 [.pim [.sl nt (T.map rsT)]])] (.int .i64 (jQ s f x t (y0 :: l))):=by
 have hb0:=hb y0 List.mem_cons_self
 have e1 : (((y0 :: l).map staA).length : Int) = l.length + 1:=by rw [List.length_map,List.length_cons];omega
 have hsl : List.take (((((y0 :: l).map staA).length : Nat) : Int) - 1).toNat (List.drop (Int.toNat 1) ((y0 :: l).map staA)) = l.map staA:=by
  rw [e1,show ((l.length : Int) + 1 - 1).toNat = l.length by omega]
  show List.take l.length (l.map staA) = _
  rw [<- List.map_take,List.take_length]
 have e2 : ((y0 :: l).length : Int) = l.length + 1:=by rw [List.length_cons];omega
 have e3 : ((l.map staA).length : Int) = l.length:=by rw [List.length_map]
 have hn0:=hn y0 List.mem_cons_self
 refine Comp.body (T:=tab) (res:=[.tmp 10]) za [] Tryz.func107 rfl (by kernel_rfl) Tryz.ntmps107 rfl (by simp only [List.length_cons,List.length_nil];decide) (by simp only [lowL,AV.low,zG,staL,yb,Bool.and_true,Bool.true_and] at hc ⊢;first|exact hc|(rw [hc];rfl)) ?_;conv=>whnf
 repeat' first|((first|refine XIx.b ?_|refine zb.ret hn0 ?_);conv=>whnf)|(rw [hsl];conv=>whnf)|((refine zh.mk ⟨by omega,by omega,by omega,.inr (zbk _)⟩ ?_);conv=>whnf)|fail
 refine Walk.loopGK za [] [(0,_),(4,_),(6,_),(7,_),(10,_),(20,_),(21,_)] ⟨rfl,rfl,rfl,rfl,rfl,rfl,rfl,trivial⟩ (fun k : Nat=>k <= l.length) (fun k=>[(11,.int .i64 ((l.take k).foldl (fun n y=>min n (f y)) (f y0))),(22,natA k)]) (fun _=>[]) (fun k=>l.length - k) 0 (Nat.zero_le _) rfl ⟨rfl,rfl,trivial⟩ ?_ (fun _ _=>(show (0 : Nat) <= 0 from Nat.le_refl 0)) ?_
 ·intro k _
  refine ⟨by simp,fun z hz=>?_⟩
  simp only [List.cons_append,List.nil_append,List.mem_cons,List.not_mem_nil,or_false] at hz
  rcases hz with rfl | rfl | rfl | rfl | rfl | rfl | rfl | rfl | rfl <;> first | rfl|exact zG s|exact yb _|(simp only [lowL,Bool.and_true] at hc;exact hc)
 intro k hk
 have hfx : k < l.length -> (l.take (k + 1)).foldl (fun n y=>min n (f y)) (f y0) = min ((l.take k).foldl (fun n y=>min n (f y)) (f y0)) (f (l.getD k default)):=fun h=>by rw [zD h,List.foldl_append];rfl
 have hfend : k = l.length -> (l.take k).foldl (fun n y=>min n (f y)) (f y0) = minL f (y0 :: l):=fun h=>by rw [h,List.take_length];rfl
 generalize (l.take k).foldl (fun n y=>min n (f y)) (f y0) = v at hfx hfend
 conv=>whnf
 by_cases hlt : k < l.length
 ·have hy : l.getD k default ∈ y0 :: l:=List.mem_cons_of_mem _ (zk hlt)
  have hls:=vT v false [f (l.getD k default)] (by simp)
  have hny:=hn _ hy
  repeat' first|((with_reducible first|refine XBr.y fun h=>?_|refine XBr.n fun h=>?_|refine XBr.dec (fun h=>?_) fun h=>?_|refine XInt.a ?_) <;> conv=>whnf)|((first|refine zh.a ?_|refine XIx.a ?_|refine zb.ret hny ?_|refine zb.ret hls ?_);conv=>whnf)|fail
  refine zl.go (k + 1) [.cells (stC (l.getD k default))] (by omega) (by omega) rfl ⟨rfl,rfl,rfl,rfl,rfl,rfl,rfl,(by rw [hfx hlt];rfl),rfl,trivial⟩
 obtain rfl : k = l.length:=by omega
 have hv:=hfend rfl
 have hge : -1 <= minL f (y0 :: l):=zbS (List.cons_ne_nil _ _) fun y hy=>(hb y hy).1
 have hle : minL f (y0 :: l) <= f y0:=(jZ (f:=f) (List.cons_ne_nil y0 l)).2 y0 List.mem_cons_self
 have hgl : jQ s f x t (y0 :: l) = if v ≠ -1 /\ (x.p : Int) = s.bed /\ t.1 = s.bed then v + 1 else v:=by unfold jQ;rw [<- hv]
 rw [<- hv] at hge hle
 rw [hgl]
 by_cases c1 : v = -1
 ·rw [if_neg (fun h=>h.1 c1)]
  repeat' first|((with_reducible first|apply XBr.ff|refine XBr.y fun h=>?_|refine XBr.n fun h=>?_|refine XBr.dec (fun h=>?_) fun h=>?_|refine XBr.y2 fun h=>?_|refine XBr.n2 fun h=>?_|refine XBr.bne (fun h=>?_) fun h=>?_|apply Chk.go|apply ChkA.go|apply ChkF.go|apply ChkB.go|apply zq.mk) <;> conv=>whnf)|(with_reducible first|apply XAnd.mk|exact trivial)|(exact zg.mk rfl rfl)|(apply Walk.drawN (id:=7) za zd [] [] (hsU _) [_,_,_,_,_,_,_,_,_,_,_,_,_,_,_,_,_,_,_,_,_,_] (by kernel_rfl) rfl)|fail
  exact XOut.int rfl
 by_cases c2 : (x.p : Int) = s.bed
 ·by_cases c3 : t.1 = s.bed
  ·rw [if_pos ⟨c1,c2,c3⟩]
   repeat' first|((with_reducible first|refine XBr.y fun h=>?_|refine XBr.n fun h=>?_|refine XBr.dec (fun h=>?_) fun h=>?_|refine XBr.y1 fun h=>?_|refine XBr.n1 fun h=>?_|refine XBr.beq (fun h=>?_) fun h=>?_|refine XBr.y2 fun h=>?_|refine XBr.n2 fun h=>?_|refine XBr.bne (fun h=>?_) fun h=>?_|refine XInt.a ?_|apply Chk.go|apply ChkA.go|apply ChkF.go|apply ChkB.go|apply zq.mk) <;> conv=>whnf)|(with_reducible first|apply XAnd.mk|exact trivial)|(exact zg.mk rfl rfl)|(apply Walk.drawN (id:=7) za zd [] [] (hsU _) [_,_,_,_,_,_,_,_,_,_,_,_,_,_,_,_,_,_,_,_,_,_] (by kernel_rfl) rfl)|fail
   exact XOut.int rfl
  ·rw [if_neg (fun h=>c3 h.2.2)]
   repeat' first|((with_reducible first|refine XBr.y fun h=>?_|refine XBr.n fun h=>?_|refine XBr.dec (fun h=>?_) fun h=>?_|refine XBr.y1 fun h=>?_|refine XBr.n1 fun h=>?_|refine XBr.beq (fun h=>?_) fun h=>?_|refine XBr.y2 fun h=>?_|refine XBr.n2 fun h=>?_|refine XBr.bne (fun h=>?_) fun h=>?_|apply Chk.go|apply ChkA.go|apply ChkF.go|apply ChkB.go|apply zq.mk) <;> conv=>whnf)|(with_reducible first|apply XAnd.mk|exact trivial)|(exact zg.mk rfl rfl)|(apply Walk.drawN (id:=7) za zd [] [] (hsU _) [_,_,_,_,_,_,_,_,_,_,_,_,_,_,_,_,_,_,_,_,_,_] (by kernel_rfl) rfl)|fail
   exact XOut.int rfl
 ·rw [if_neg (fun h=>c2 h.2.1)]
  repeat' first|((with_reducible first|apply XBr.ff|refine XBr.y fun h=>?_|refine XBr.n fun h=>?_|refine XBr.dec (fun h=>?_) fun h=>?_|refine XBr.y1 fun h=>?_|refine XBr.n1 fun h=>?_|refine XBr.beq (fun h=>?_) fun h=>?_|refine XBr.y2 fun h=>?_|refine XBr.n2 fun h=>?_|refine XBr.bne (fun h=>?_) fun h=>?_|apply Chk.go|apply ChkA.go|apply ChkF.go|apply ChkB.go|apply zq.mk) <;> conv=>whnf)|(with_reducible first|apply XAnd.mk|exact trivial)|(exact zg.mk rfl rfl)|(apply Walk.drawN (id:=7) za zd [] [] (hsU _) [_,_,_,_,_,_,_,_,_,_,_,_,_,_,_,_,_,_,_,_,_,_] (by kernel_rfl) rfl)|fail
  exact XOut.int rfl
theorem best_tb (nt : Bool) (T : List Rs) (s : Sn) (ok : SnOk s) (f : Sta -> Int) (x : Sta) (hx : StOk s x) (hc : lowL 0 [(AV.fn 363 [.pim [.sl nt (T.map rsT)]])] = true) (hn : ∀ t,∀ y ∈ zm s x t,Comp Tryz.prog 363 [staA y,.pim [.sl nt (T.map rsT)]] (.int .i64 (f y))) (hb : ∀ t,∀ y ∈ zm s x t,-1 <= f y /\ f y <= 100) :
  Comp Tryz.prog 231 [zF s,staA x,(AV.fn 363 [.pim [.sl nt (T.map rsT)]])] (.int .i64 (zM s f x)):=by
 have p1:=ok.p1;have p2:=ok.p2;have l1:=ok.l1;have l2:=ok.l2;have w1:=ok.w1
 have x1:=hx.p;have x2:=hx.m;have x3:=hx.l
 have hsf:=qV s ok x (by omega) (by omega) (by omega)
 cases h1 : zW s x with
 | false =>
   rw [h1] at hsf
   rw [show zM s f x = -1 by unfold zM;rw [if_neg (by rw [h1];simp)]]
   refine Comp.body (T:=tab) (res:=[.tmp 6]) za [] Tryz.func231 rfl (by kernel_rfl) Tryz.ntmps231 rfl (by simp only [List.length_cons,List.length_nil];decide) (by simp only [lowL,AV.low,zG,staL,yb,Bool.and_true,Bool.true_and] at hc ⊢;first|exact hc|(rw [hc];rfl)) ?_;conv=>whnf
   repeat' first|((with_reducible apply XBr.ff);conv=>whnf) | with_reducible apply XBr.not|((refine zb.ret hsf ?_);conv=>whnf)|fail
   exact XOut.int rfl
 | true =>
   rw [h1] at hsf
   have hmg : mget (x.p : Int) ((keyF s).zip ((esF s s.places.toNat).map (·.2))) = some (.sl false ((waysL s x.p).map sgA)):=by
    unfold keyF;rw [vJ];exact wI s _ _ (by omega)
   have hho:=zbT s x
   have hst:=qx s x
   rw [<- zcy s f x h1]
   have hwl : (waysL s x.p).length <= 55:=by
    have h:=yo s x.p s.places.toNat
    have h2 : s.places.toNat * (1 + s.ways.length) <= 5 * 11:=Nat.mul_le_mul (by omega) (by omega)
    show (yc s x.p s.places.toNat).length <= 55
    omega
   have hwm:=fun t (h : t ∈ waysL s x.p)=>yn ok h
   generalize waysL s x.p = W at hmg hwl hwm
   have e1 : ((W.map sgA).length : Int) = W.length:=by rw [List.length_map]
   refine Comp.body' (T:=tab) (res:=[.tmp 6]) za [] Tryz.func231 rfl (by kernel_rfl) Tryz.ntmps231 rfl (by simp only [List.length_cons,List.length_nil];decide) (by simp only [lowL,AV.low,zG,staL,yb,Bool.and_true,Bool.true_and] at hc ⊢;first|exact hc|(rw [hc];rfl)) ?_;conv=>whnf
   repeat' first|((with_reducible apply XBr.tt);conv=>whnf) | with_reducible apply XBr.not|((first|refine zb.ret hsf ?_|refine zb.ret hho ?_|refine zb.ret hst ?_);conv=>whnf)|fail
   refine Walk.range (own:=[]) za [(3,.pim [zF s]),(4,.pim (stC x)),(5,.pim [(AV.fn 363 [.pim [.sl nt (T.map rsT)]])]),(6,.int .i64 0),(7,.ptr 0 0)] rfl ⟨rfl,rfl,rfl,rfl,rfl,trivial⟩ ?_
   intro fn
   refine zb.inl (T:=tab) (res:=[]) za [] Tryz.func264 rfl (by kernel_rfl) Tryz.ntmps264 rfl (by simp only [List.length_append,List.length_cons,List.length_nil];decide) ?_;conv=>whnf
   repeat' first|((with_reducible first|apply Chk.go|apply ChkA.go|apply ChkF.go|apply ChkB.go|apply zq.mk);conv=>whnf)|(with_reducible first|apply XAnd.mk|exact trivial)|(exact zg.mk rfl rfl)|(apply Walk.drawN (id:=0) za zd [] [] (hsU _) [_,_,_,_,_,_,_,_,_] (by kernel_rfl) rfl)|((first|refine jM.dskF ?_|refine kh.mk' hmg ?_);conv=>whnf)|fail
   refine Walk.loopGKL za [] _ [(0,_),(1,_),(2,_),(13,_),(14,_)] ⟨rfl,rfl,rfl,rfl,rfl,trivial⟩ (fun k : Nat=>k <= W.length) (fun k=>[(15,natA k)]) (fun lp k=>[.cells [.int .i64 (bstN s f x (W.take k) (ye s x))],.raw (.deferred (some [])),lp]) (fun k=>W.length - k) 0 (Nat.zero_le _) rfl ⟨rfl,trivial⟩ ?_ (fun _ _=>(show (3 : Nat) <= 3 from Nat.le_refl 3)) ?_
   ·intro k _
    refine ⟨fun z hz=>?_,fun z hz=>?_⟩
    ·show z.low 3 = true
     simp only [List.cons_append,List.nil_append,List.mem_cons,List.not_mem_nil,or_false] at hz
     rcases hz with rfl | rfl | rfl
     ·rfl
     ·rfl
     ·show lowL 3 [AV.pim [zF s],AV.pim (stC x),AV.pim [(AV.fn 363 [.pim [.sl nt (T.map rsT)]])],AV.int .i64 0,AV.ptr 0 0] = true
      simp only [lowL,AV.low,zG,Bool.and_true,Bool.true_and] at hc ⊢
      first | rfl|(rw [zaX (n:=0) (by omega) hc];rfl)
    ·show z.2.low 3 = true
     simp only [List.cons_append,List.nil_append,List.mem_cons,List.not_mem_nil,or_false] at hz
     rcases hz with rfl | rfl | rfl | rfl | rfl | rfl <;> first | rfl|exact zN _|(simp only [AV.low,lowL,zG];rfl)
   intro k hk
   have hbx : k < W.length -> bstN s f x (W.take (k + 1)) (ye s x) = if (!(zm s x (W.getD k default)).isEmpty) = true then max (bstN s f x (W.take k) (ye s x)) (zP s f x (W.getD k default)) else bstN s f x (W.take k) (ye s x):=fun h=>by unfold bstN;rw [zD h,List.foldl_append];rfl
   have hbend : k = W.length -> bstN s f x (W.take k) (ye s x) = bstN s f x W (ye s x):=fun h=>by rw [h,List.take_length]
   generalize bstN s f x (W.take k) (ye s x) = v at hbx hbend
   conv=>whnf
   by_cases hlt : k < W.length
   ·have hw:=hwm _ (zk (d:=default) hlt)
    have hfa:=wq s ok x hx (W.getD k default) (by omega) (by omega)
    have hnk:=hn (W.getD k default)
    have hbk:=hb (W.getD k default)
    have hgq:=gG s f x (W.getD k default)
    have hbx:=hbx hlt
    cases haf : zm s x (W.getD k default) with
    | nil =>
      rw [haf] at hfa hbx
      have e0 : (([] : List AV).length : Int) = 0:=rfl
      have hfa' : Comp Tryz.prog 246 [zF s,staA x,sgA (W.getD k default)] (.sl true []):=hfa
      repeat' first|((with_reducible first|apply XBr.ff|refine XBr.y fun h=>?_|refine XBr.n fun h=>?_|refine XBr.dec (fun h=>?_) fun h=>?_|refine XInt.a ?_) <;> conv=>whnf)|((first|refine XIx.a ?_|refine zb.ret hfa' ?_);conv=>whnf)|fail
      refine zl.go (k + 1) [.cells (sgA (W.getD k default)).cells] (by omega) (by omega) ?_ ⟨rfl,rfl,rfl,rfl,rfl,rfl,trivial⟩
      show [Blk.cells [.int .i64 (bstN s f x (W.take (k + 1)) (ye s x))],_,_] ++ _ = _
      rw [hbx];rfl
    | cons y0 l =>
      rw [haf] at hfa hbx hnk hbk hgq
      have hln : l.length <= 100:=by
       have:=y8 s x (W.getD k default)
       rw [haf,List.length_cons] at this
       omega
      have hfa' : Comp Tryz.prog 246 [zF s,staA x,sgA (W.getD k default)] (.sl false ((y0 :: l).map staA)):=hfa
      have e2 : (((y0 :: l).map staA).length : Int) = l.length + 1:=by rw [List.length_map,List.length_cons];omega
      have hgw:=gained_tb nt T s f x (W.getD k default) false y0 l hln hc hnk hbk
      rw [<- hgq] at hgw
      repeat' first|((with_reducible first|apply XBr.tt|refine XBr.y fun h=>?_|refine XBr.n fun h=>?_|refine XBr.dec (fun h=>?_) fun h=>?_) <;> conv=>whnf)|((first|(first|refine XIx.a ?_|refine zb.ret hfa' ?_)|((refine wZ.go (own:=[]) za rfl rfl (by decide) ?_);intro ρ));conv=>whnf)|fail
      apply Walk.drawX za zd [] [8] (hsC [_,_]) [_,_,_,_,_,_,_,_,_] (by kernel_rfl) rfl
      ·skip
       repeat' first|((with_reducible first|apply Chk.go|apply ChkA.go);conv=>whnf)|(with_reducible first|apply XAnd.mk|exact trivial)|(exact zg.mk rfl rfl)|((refine zb.ret hgw ?_);conv=>whnf)|fail
      ·skip
       repeat' first|((with_reducible first|apply ChkF.go|apply ChkB.go);conv=>whnf)|(with_reducible first|apply XAnd.mk|exact trivial)|fail
      conv=>whnf
      repeat' first|((with_reducible first|apply XBr.tt|refine XInt.a ?_);conv=>whnf) | with_reducible apply XBr.not|fail
      refine zl.go (k + 1) [.cells (sgA (W.getD k default)).cells,.cells (sgA (W.getD k default)).cells] (by omega) (by omega) ?_ ⟨rfl,rfl,rfl,rfl,rfl,rfl,trivial⟩
      show [Blk.cells [.int .i64 (bstN s f x (W.take (k + 1)) (ye s x))],_,_] ++ _ = _
      rw [hbx];rfl
   obtain rfl : k = W.length:=by omega
   rw [<- hbend rfl]
   repeat' ((with_reducible first|refine XBr.y fun h=>?_|refine XBr.n fun h=>?_|refine XBr.dec (fun h=>?_) fun h=>?_) <;> conv=>whnf)
   exact ⟨.low rfl⟩
end GA
end
section
namespace GA
open Go Go.RowKit Go.Proofs
theorem idxf_rs (nl : Bool) (xs : List Rs) (g : FuncId) (caps : List AV) (p : Rs -> Bool) (hl : lowL 0 caps = true) (hx : xs.length <= 100000) (hp : ∀ x ∈ xs,Comp Tryz.prog g ((rsT x) :: caps) (.bool (p x))) :
  Comp Tryz.prog 434 [.sl nl (xs.map (rsT)),.fn g caps] (.int .i64 (idxR p xs)):=by
 refine Comp.body (T:=tab) (res:=[.tmp 4]) za [] Tryz.func434 rfl (by kernel_rfl) Tryz.ntmps434 rfl (by simp only [List.length_cons,List.length_nil];decide) (by simp only [lowL,AV.low,zZ,hl];rfl) ?_;conv=>whnf
 refine Walk.loop za [] (fun i : Nat=>i <= xs.length /\ ∀ j,j < i -> p (xs.getD j default) = false) (fun i=>[(0,.sl nl (xs.map (rsT))),(1,.fn g caps),(7,.int .i64 xs.length),(8,.int .i64 i)]) (fun _=>[]) (fun i=>xs.length - i) 0 ⟨by omega,by omega⟩ rfl ⟨rfl,rfl,by simp only [List.length_map];rfl,rfl,trivial⟩ ?_
 rintro i ⟨h2,h3⟩
 conv=>whnf
 repeat' first|((with_reducible first|refine XBr.y fun h=>?_|refine XBr.n fun h=>?_|refine XBr.dec (fun h=>?_) fun h=>?_) <;> conv=>whnf)|(refine XIx.a ?_;conv=>whnf)|fail
 ·refine zb.ret (hp _ (zk (i:=i) (d:=default) (by omega))) ?_
  conv=>whnf
  refine XBr.mk' ?_ ?_ <;> intro h4 <;> (conv=>whnf)
  ·refine XOut.int ?_
   simp only [idxR,km (d:=default) (i:=i) (by omega) h4 h3]
  ·skip
   repeat' ((with_reducible refine XInt.a ?_);conv=>whnf)
   refine zj.go (i + 1) ⟨by omega,fun j hj=>?_⟩ (by omega) rfl ⟨rfl,rfl,rfl,rfl,trivial⟩
   by_cases hji : j = i
   ·subst hji;exact h4
   ·exact h3 j (by omega)
 ·refine XOut.int ?_
  simp only [idxR,kk (d:=default) fun j hj=>h3 j (by omega)]
theorem contf_rs (nl : Bool) (xs : List Rs) (g : FuncId) (caps : List AV) (p : Rs -> Bool) (hl : lowL 0 caps = true) (hx : xs.length <= 100000) (hp : ∀ x ∈ xs,Comp Tryz.prog g ((rsT x) :: caps) (.bool (p x))) :
  Comp Tryz.prog 405 [.sl nl (xs.map (rsT)),.fn g caps] (.bool (xs.any p)):=by
 refine Comp.body (T:=tab) (res:=[.tmp 4]) za [] Tryz.func405 rfl (by kernel_rfl) Tryz.ntmps405 rfl (by simp only [List.length_cons,List.length_nil];decide) (by simp only [lowL,AV.low,zZ,hl];rfl) ?_;conv=>whnf
 refine zb.ret (idxf_rs nl xs g caps p hl hx hp) ?_
 conv=>whnf
 refine XOut.bool ?_
 rw [Bool.eq_iff_iff,decide_eq_true_eq];exact kW
theorem every1_rs (x : Rs) (g : FuncId) (caps : List AV) (p : Rs -> Bool) (hl : lowL 0 caps = true) (hp : Comp Tryz.prog g ((rsT x) :: caps) (.bool (p x))) :
  Comp Tryz.prog 406 [(rsT x),.pim [.fn g caps]] (.bool (!p x)):=by
 refine Comp.body (T:=tab) (res:=[.tmp 3]) za [] Tryz.func406 rfl (by kernel_rfl) Tryz.ntmps406 rfl (by simp only [List.length_cons,List.length_nil];decide) (by simp only [lowL,AV.low,rsTL,hl];rfl) ?_;conv=>whnf
 refine zb.ret hp ?_
 conv=>whnf
 exact XOut.bool rfl
theorem qp (nl : Bool) (xs : List Rs) (g : FuncId) (caps : List AV) (p : Rs -> Bool) (hl : lowL 0 caps = true) (hx : xs.length <= 100000) (hp : ∀ x ∈ xs,Comp Tryz.prog g ((rsT x) :: caps) (.bool (p x))) :
  Comp Tryz.prog 357 [.sl nl (xs.map (rsT)),.fn g caps] (.bool (xs.all p)):=by
 refine Comp.body (T:=tab) (res:=[.tmp 4]) za [] Tryz.func357 rfl (by kernel_rfl) Tryz.ntmps357 rfl (by simp only [List.length_cons,List.length_nil];decide) (by simp only [lowL,AV.low,zZ,hl];rfl) ?_;conv=>whnf
 refine zb.ret (contf_rs nl xs 406 [.pim [.fn g caps]] (fun x=>!p x) (by simp only [lowL,AV.low,hl];rfl) hx fun x hm=>every1_rs x g caps p hl (hp x hm)) ?_
 conv=>whnf
 refine XOut.bool ?_
 rw [List.not_any_eq_all_not];simp
def tabM (s : Sn) (T : List Rs) : Bool:=decide ((T.length : Int) = s.places) && T.all fun l=>decide ((l.2.length : Int) = s.last + 1) && l.2.all fun k=>decide ((k.2.length : Int) = allN s + 1)
def tabV (T : List Rs) : Bool:=T.all fun l=>l.2.all fun k=>k.2.all fun n=>inZ n (-1) 60
def tabE (s : Sn) (T : List Rs) : Int:=if snE s ≠ 0 then snE s else if tabM s T = false then 2 else if tabV T = false then 3 else 0
theorem v4 {s : Sn} {T : List Rs} : tabE s T = 0 ↔ SnOk s /\ tabM s T = true /\ tabV T = true:=by
 unfold tabE
 by_cases h : snE s = 0
 ·rw [if_neg (fun e=>e h)]
  have ok:=zO.1 h
  cases h1 : tabM s T
  ·rw [if_pos rfl];exact ⟨fun e=>absurd e (by decide),fun e=>absurd e.2.1 (by simp)⟩
  ·rw [if_neg (by simp)]
   cases h2 : tabV T
   ·rw [if_pos rfl];exact ⟨fun e=>absurd e (by decide),fun e=>absurd e.2.2 (by simp)⟩
   ·rw [if_neg (by simp)];exact ⟨fun _=>⟨ok,rfl,rfl⟩,fun _=>rfl⟩
 ·rw [if_pos h]
  exact ⟨fun e=>absurd e h,fun e=>absurd (zO.2 e.1) h⟩
theorem yZ {α : Type} {p : α -> Bool} {l : List α} {d : α} : l.all p = true ↔ ∀ i,i < l.length -> p (l.getD i d) = true:=by
 rw [List.all_eq_true]
 refine ⟨fun h i hi=>h _ (zk hi),fun h x hx=>?_⟩
 obtain ⟨i,hi,rfl⟩:=List.mem_iff_getElem.1 hx
 have:=h i hi
 rwa [List.getD_eq_getElem?_getD,List.getElem?_eq_getElem hi] at this
theorem vq {s : Sn} {T : List Rs} (h1 : tabM s T = true) (h2 : tabV T = true) : TbOk s T:=by
 unfold tabM at h1
 rw [Bool.and_eq_true,decide_eq_true_eq,yZ (d:=default)] at h1
 unfold tabV at h2
 rw [yZ (d:=default)] at h2
 refine ⟨h1.1,fun p hp=>?_,fun p m hp hm=>?_,fun p m l hp hm hl=>?_⟩
 ·have:=h1.2 p hp
  rw [Bool.and_eq_true,decide_eq_true_eq] at this
  exact this.1
 ·have:=h1.2 p hp
  rw [Bool.and_eq_true,yZ (d:=default)] at this
  have:=this.2 m hm
  rw [decide_eq_true_eq] at this
  omega
 ·have:=h2 p hp
  rw [yZ (d:=default)] at this
  have:=this m hm
  rw [yZ (d:=default)] at this
  have:=this l hl
  rw [zr] at this
  exact this
theorem tab11_c (s : Sn) (ok : SnOk s) (r : Rw) (h : r.2.length <= 100000) : Comp Tryz.prog 359 [rwA r,.pim [zF s]] (.bool (decide ((r.2.length : Int) = allN s + 1))):=by
 have ha:=vb s ok
 have hal:=ym ok
 have e : ((ints r.2).length : Int) = r.2.length:=by rw [zK]
 refine Comp.body (T:=tab) (res:=[.tmp 3]) za [] Tryz.func359 rfl (by kernel_rfl) Tryz.ntmps359 rfl (by simp only [List.length_cons,List.length_nil];decide) (by simp only [lowL,AV.low,zG,rwL];rfl) ?_;conv=>whnf
 repeat' first|((first|(with_reducible refine XInt.a ?_)|(refine zb.ret ha ?_));conv=>whnf)|fail
 exact XOut.bool (by rw [e];rfl)
theorem tab1_c (s : Sn) (ok : SnOk s) (l : Rs) (h : l.2.length <= 1000) (h2 : ∀ r ∈ l.2,r.2.length <= 1000) : Comp Tryz.prog 358 [rsT l,.pim (snC s),.pim [zF s]] (.bool (decide ((l.2.length : Int) = s.last + 1) && l.2.all fun k=>decide ((k.2.length : Int) = allN s + 1))):=by
 have l1:=ok.l1;have l2:=ok.l2
 have e : ((l.2.map rwA).length : Int) = l.2.length:=by rw [List.length_map]
 have c:=vR l.1 l.2 359 [.pim [zF s]] (fun r=>decide ((r.2.length : Int) = allN s + 1)) (by simp only [lowL,AV.low,zG];rfl) (by omega) fun r hr=>tab11_c s ok r (by have:=h2 r hr;omega)
 generalize l.2.all (fun k=>decide ((k.2.length : Int) = allN s + 1)) = b at c
 by_cases hq : (l.2.length : Int) = s.last + 1
 ·rw [decide_eq_true hq,Bool.true_and]
  refine Comp.body (T:=tab) (res:=[.tmp 4]) za [] Tryz.func358 rfl (by kernel_rfl) Tryz.ntmps358 rfl (by simp only [List.length_cons,List.length_nil];decide) (by simp only [lowL,AV.low,zG,snCL,rsTL];rfl) ?_;conv=>whnf
  repeat' first|((with_reducible first|apply XBr.tt|refine XBr.y1 fun h=>?_|refine XBr.n1 fun h=>?_|refine XBr.beq (fun h=>?_) fun h=>?_|refine XInt.a ?_) <;> conv=>whnf)|((refine zb.ret c ?_);conv=>whnf)|fail
  exact XOut.bool rfl
 ·rw [decide_eq_false hq,Bool.false_and]
  refine Comp.body (T:=tab) (res:=[.tmp 4]) za [] Tryz.func358 rfl (by kernel_rfl) Tryz.ntmps358 rfl (by simp only [List.length_cons,List.length_nil];decide) (by simp only [lowL,AV.low,zG,snCL,rsTL];rfl) ?_;conv=>whnf
  repeat' ((with_reducible first|apply XBr.ff|refine XBr.y1 fun h=>?_|refine XBr.n1 fun h=>?_|refine XBr.beq (fun h=>?_) fun h=>?_|refine XInt.a ?_) <;> conv=>whnf)
  exact XOut.bool rfl
theorem tab211_c (n : Int) : Comp Tryz.prog 362 [.int .i64 n] (.bool (inZ n (-1) 60)):=by
 refine Comp.body (T:=tab) (res:=[.tmp 2]) za [] Tryz.func362 rfl (by kernel_rfl) Tryz.ntmps362 rfl (by simp only [List.length_cons,List.length_nil];decide) (by rfl) ?_;conv=>whnf
 repeat' ((refine zb.ret (ka _ _ _) ?_);conv=>whnf)
 exact XOut.bool rfl
theorem tab21_c (r : Rw) (h : r.2.length <= 100000) : Comp Tryz.prog 361 [rwA r] (.bool (r.2.all fun n=>inZ n (-1) 60)):=by
 have c:=zck r.1 r.2 362 [] (fun n=>inZ n (-1) 60) rfl h fun n _=>tab211_c n
 refine Comp.body (T:=tab) (res:=[.tmp 2]) za [] Tryz.func361 rfl (by kernel_rfl) Tryz.ntmps361 rfl (by simp only [List.length_cons,List.length_nil];decide) (by simp only [lowL,rwL];rfl) ?_;conv=>whnf
 repeat' ((refine zb.ret c ?_);conv=>whnf)
 exact XOut.bool rfl
theorem tab2_c (l : Rs) (h : l.2.length <= 1000) (h2 : ∀ r ∈ l.2,r.2.length <= 1000) : Comp Tryz.prog 360 [rsT l] (.bool (l.2.all fun k=>k.2.all fun n=>inZ n (-1) 60)):=by
 have c:=vR l.1 l.2 361 [] (fun k=>k.2.all fun n=>inZ n (-1) 60) rfl (by omega) fun r hr=>tab21_c r (by have:=h2 r hr;omega)
 refine Comp.body (T:=tab) (res:=[.tmp 2]) za [] Tryz.func360 rfl (by kernel_rfl) Tryz.ntmps360 rfl (by simp only [List.length_cons,List.length_nil];decide) (by simp only [lowL,rsTL];rfl) ?_;conv=>whnf
 repeat' ((refine zb.ret c ?_);conv=>whnf)
 exact XOut.bool rfl
structure TbB (T : List Rs) : Prop where
 a : T.length <= 1000
 b : ∀ l ∈ T,l.2.length <= 1000
 c : ∀ l ∈ T,∀ r ∈ l.2,r.2.length <= 1000
theorem zaO (s : Sn) (hb : SnB s) (nt : Bool) (T : List Rs) (hT : TbB T) (h : tabE s T ≠ 0) : Comp Tryz.prog 257 [snA s,.sl nt (T.map rsT)] (.tup [.nilp,.int .i64 (tabE s T)]):=by
 have e1 : ((T.map rsT).length : Int) = T.length:=by rw [List.length_map]
 have t1:=hT.a
 by_cases h0 : snE s = 0
 ·have ok:=zO.1 h0
  have ho:=z4 s hb ok
  have he : tabE s T = if tabM s T = false then 2 else if tabV T = false then 3 else 0:=by unfold tabE;rw [if_neg (fun e=>e h0)]
  rw [he] at h ⊢
  have c1:=qp nt T 358 [.pim (snC s),.pim [zF s]] (fun l=>decide ((l.2.length : Int) = s.last + 1) && l.2.all fun k=>decide ((k.2.length : Int) = allN s + 1)) (by simp only [lowL,AV.low,zG,snCL];rfl) (by omega) fun l hl=>tab1_c s ok l (hT.b l hl) (hT.c l hl)
  have c2:=qp nt T 360 [] (fun l=>l.2.all fun k=>k.2.all fun n=>inZ n (-1) 60) rfl (by omega) fun l hl=>tab2_c l (hT.b l hl) (hT.c l hl)
  have hM : tabM s T = (decide ((T.length : Int) = s.places) && T.all fun l=>decide ((l.2.length : Int) = s.last + 1) && l.2.all fun k=>decide ((k.2.length : Int) = allN s + 1)):=rfl
  have hV : tabV T = T.all fun l=>l.2.all fun k=>k.2.all fun n=>inZ n (-1) 60:=rfl
  rw [<- hV] at c2
  generalize (T.all fun l=>decide ((l.2.length : Int) = s.last + 1) && l.2.all fun k=>decide ((k.2.length : Int) = allN s + 1)) = r1 at c1 hM
  generalize tabV T = r2 at c2 h
  rw [hM] at h ⊢
  by_cases hq : (T.length : Int) = s.places
  ·rw [decide_eq_true hq,Bool.true_and] at h ⊢
   cases r1 with
   | false =>
     rw [if_pos rfl]
     refine Comp.body (T:=tab) (res:=[.tmp 4,.tmp 5]) za [] Tryz.func257 rfl (by kernel_rfl) Tryz.ntmps257 rfl (by simp only [List.length_cons,List.length_nil];decide) (by simp only [lowL,AV.low,snL,zZ];rfl) ?_;conv=>whnf
     repeat' first|((with_reducible first|apply XBr.ff|refine XBr.y2 fun h=>?_|refine XBr.n2 fun h=>?_|refine XBr.bne (fun h=>?_) fun h=>?_) <;> conv=>whnf) | with_reducible apply XBr.not|((first|refine zb.ret ho ?_|refine zb.lend c1 (.cons (.low (zZ T)) (.cons (Froz.fn (.cons (.low (snCL s)) (.cons (Froz.ptr rfl (one1 rfl) (.cons (.low (zG s)) .nil)) .nil))) .nil)) rfl ?_);conv=>whnf)|fail
     exact ⟨.low rfl⟩
   | true =>
     rw [if_neg (by simp)] at h ⊢
     cases r2 with
     | true=>exact absurd (if_neg (by simp)) h
     | false =>
       rw [if_pos rfl]
       refine Comp.body (T:=tab) (res:=[.tmp 4,.tmp 5]) za [] Tryz.func257 rfl (by kernel_rfl) Tryz.ntmps257 rfl (by simp only [List.length_cons,List.length_nil];decide) (by simp only [lowL,AV.low,snL,zZ];rfl) ?_;conv=>whnf
       repeat' first|((with_reducible first|apply XBr.tt|apply XBr.ff|refine XBr.y2 fun h=>?_|refine XBr.n2 fun h=>?_|refine XBr.bne (fun h=>?_) fun h=>?_) <;> conv=>whnf) | with_reducible apply XBr.not|((first|refine zb.ret ho ?_|refine zb.lend c1 (.cons (.low (zZ T)) (.cons (Froz.fn (.cons (.low (snCL s)) (.cons (Froz.ptr rfl (one1 rfl) (.cons (.low (zG s)) .nil)) .nil))) .nil)) rfl ?_|refine zb.ret c2 ?_);conv=>whnf)|fail
       exact ⟨.low rfl⟩
  ·rw [decide_eq_false hq,Bool.false_and,if_pos rfl]
   refine Comp.body (T:=tab) (res:=[.tmp 4,.tmp 5]) za [] Tryz.func257 rfl (by kernel_rfl) Tryz.ntmps257 rfl (by simp only [List.length_cons,List.length_nil];decide) (by simp only [lowL,AV.low,snL,zZ];rfl) ?_;conv=>whnf
   repeat' first|((with_reducible first|apply XBr.tt|refine XBr.y2 fun h=>?_|refine XBr.n2 fun h=>?_|refine XBr.bne (fun h=>?_) fun h=>?_) <;> conv=>whnf)|((refine zb.ret ho ?_);conv=>whnf)|fail
   exact ⟨.low rfl⟩
 ·have ho:=yp s hb h0
  have he : tabE s T = snE s:=by unfold tabE;rw [if_pos h0]
  rw [he]
  generalize snE s = e at h0 ho
  refine Comp.body (T:=tab) (res:=[.tmp 4,.tmp 5]) za [] Tryz.func257 rfl (by kernel_rfl) Tryz.ntmps257 rfl (by simp only [List.length_cons,List.length_nil];decide) (by simp only [lowL,AV.low,snL,zZ];rfl) ?_;conv=>whnf
  repeat' first|((with_reducible first|refine XBr.y2 fun h=>?_|refine XBr.n2 fun h=>?_|refine XBr.bne (fun h=>?_) fun h=>?_) <;> conv=>whnf)|((refine zb.ret ho ?_);conv=>whnf)|fail
  exact ⟨.low rfl⟩
theorem zaz (s : Sn) (hb : SnB s) (nt : Bool) (T : List Rs) (hT : TbB T) (h : tabE s T = 0) : Comp Tryz.prog 257 [snA s,.sl nt (T.map rsT)] (.tup [zF s,.int .i64 0]):=by
 obtain ⟨ok,hM,hV⟩:=v4.1 h
 have e1 : ((T.map rsT).length : Int) = T.length:=by rw [List.length_map]
 have t1:=hT.a
 have ho:=z4 s hb ok
 have c1:=qp nt T 358 [.pim (snC s),.pim [zF s]] (fun l=>decide ((l.2.length : Int) = s.last + 1) && l.2.all fun k=>decide ((k.2.length : Int) = allN s + 1)) (by simp only [lowL,AV.low,zG,snCL];rfl) (by omega) fun l hl=>tab1_c s ok l (hT.b l hl) (hT.c l hl)
 have c2:=qp nt T 360 [] (fun l=>l.2.all fun k=>k.2.all fun n=>inZ n (-1) 60) rfl (by omega) fun l hl=>tab2_c l (hT.b l hl) (hT.c l hl)
 rw [show (T.all fun l=>l.2.all fun k=>k.2.all fun n=>inZ n (-1) 60) = true from hV] at c2
 have hq:=(vq hM hV).a
 unfold tabM at hM
 rw [Bool.and_eq_true] at hM
 rw [hM.2] at c1
 refine Comp.body (T:=tab) (res:=[.tmp 4,.tmp 5]) za [] Tryz.func257 rfl (by kernel_rfl) Tryz.ntmps257 rfl (by simp only [List.length_cons,List.length_nil];decide) (by simp only [lowL,AV.low,snL,zZ];rfl) ?_;conv=>whnf
 repeat' first|((with_reducible first|apply XBr.tt|apply XBr.ff|refine XBr.y2 fun h=>?_|refine XBr.n2 fun h=>?_|refine XBr.bne (fun h=>?_) fun h=>?_) <;> conv=>whnf) | with_reducible apply XBr.not|((first|refine zb.ret ho ?_|refine zb.lend c1 (.cons (.low (zZ T)) (.cons (Froz.fn (.cons (.low (snCL s)) (.cons (Froz.ptr rfl (one1 rfl) (.cons (.low (zG s)) .nil)) .nil))) .nil)) rfl ?_|refine zb.ret c2 ?_);conv=>whnf)|fail
 exact ⟨.low (by show ((zF s).low 0 && true) = true;rw [zG];rfl)⟩
end GA
end
section
namespace GA
open Go Go.RowKit Go.Proofs
theorem yF {α β : Type} (f : α -> β) (W : Nat) (F : Nat -> α) : (vecF W F).map f = vecF W fun i=>f (F i):=by rw [zL,zL,List.map_map];rfl
theorem yJ {α : Type} (W : Nat) (F : Nat -> α) : vecF (W + 1) F = vecF W F ++ [F W]:=by rw [zL,zL,List.range_succ,List.map_append];rfl
theorem vo {α : Type} {W : Nat} {F G : Nat -> α} {x : α} (h : ∀ i,i < W -> G i = F i) (hx : G W = x) : vecF W F ++ [x] = vecF (W + 1) G:=by
 rw [yJ,hx,zB h]
theorem kx {α : Type} {W : Nat} {F : Nat -> α} {i : Nat} (h : i < W) : lget (vecF W F) i = some (F i):=by rw [zo,yg,if_pos h]
theorem vj {α : Type} {H : List α} {x : α} {i : Nat} (h : i = H.length) : lget (H ++ [x]) i = some x:=by subst h;rw [zo,List.getElem?_append_right (Nat.le_refl _),Nat.sub_self];rfl
theorem vY {α : Type} {H : List α} {x y : α} {i : Nat} (h : i = H.length) : (H ++ [x]).set i y = H ++ [y]:=by subst h;rw [List.set_append_right _ _ (Nat.le_refl _),Nat.sub_self];rfl
theorem yu {k : List Blk -> Prop} {b : Blk} : ∀ {H : List Blk} {i : Nat} (H' : List Blk),i < H.length -> H.set i b = H' -> k H' -> hset H i b k:=by
 have key : ∀ (H : List Blk) (i : Nat) (k : List Blk -> Prop),i < H.length -> k (H.set i b) -> hset H i b k:=by
  intro H;induction H with
  | nil=>intro i k h;simp at h
  | cons x H ih =>
    intro i k h hk
    cases i with
    | zero=>exact hk
    | succ i=>exact ih i _ (by simpa using h) hk
 intro H i H' h e hk
 exact key H i k h (by rw [e];exact hk)
theorem fR {k : Nat -> List Blk -> Prop} {b : Blk} {H : List Blk} {j : Nat} (n : Nat) (H' : List Blk) (hn : j + H.length = n) (e : H ++ [b] = H') (hk : k n H') : hpush H j b k:=by
 have key : ∀ (H : List Blk) (j : Nat) (k : Nat -> List Blk -> Prop),k (j + H.length) (H ++ [b]) -> hpush H j b k:=by
  intro H;induction H with
  | nil=>intro j k hk;exact hk
  | cons x H ih=>intro j k hk;exact ih (j + 1) (fun i l=>k i (x :: l)) (by rw [show j + 1 + H.length = j + (x :: H).length by rw [List.length_cons];omega];exact hk)
 exact key H j k (by rw [hn,e];exact hk)
theorem XGet.to {els : List AV} {n e : Nat} {k : List AV -> Prop} (v : AV) (h1 : n = els.length) (h2 : e < n) (hv : els.getD e default = v) (h : k v.cells) : XGet els n e k:=⟨h1,h2,by rw [hv];exact h⟩
theorem XPut.to {els : List AV} {n e : Nat} {v : AV} {k : List AV -> Prop} (els' : List AV) (h1 : n = els.length) (h2 : e < n) (hv : els.set e v = els') (h : k els') : XPut els n e v k:=⟨h1,h2,by rw [hv];exact h⟩
theorem zvs_at {W j : Nat} {F : Nat -> Int} (h : j < W) : (zvs W F).getD j default = .int .i64 (F j):=by
 unfold zvs
 rw [List.getD_eq_getElem?_getD,List.getElem?_map,yg,if_pos h];rfl
theorem zbu (W j : Nat) (F : Nat -> Int) (v : Int) : (zvs W F).set j (.int .i64 v) = zvs W (updV F j v):=by
 unfold zvs
 rw [<- yA,List.map_set]
theorem fQ (W : Nat) (F : Nat -> Int) : zvs W F = ints (vecF W F):=rfl
theorem va {P : Program} {H : List Blk} {i W : Nat} {t : TypeId} {nl : Bool} {F G : Nat -> AV} (hb : lget H i = some (.grow t nl (vecF W F))) (hsz : sz P t = 1) (hF : ∀ j,j < W -> (F j).one = true) (hG : ∀ j,j < W -> (G j).one = true) (hf : ∀ j,j < W -> Froz P H (F j) (G j)) :
  Froz P H (.gr i W) (.sl nl (vecF W G)):=by
 have hF' : ∀ x ∈ vecF W F,x.one = true:=fun x hx=>by obtain ⟨j,hj,rfl⟩:=yd.1 hx;exact hF j hj
 have hG' : ∀ x ∈ vecF W G,x.one = true:=fun x hx=>by obtain ⟨j,hj,rfl⟩:=yd.1 hx;exact hG j hj
 refine Froz.gr hb (zx _ _) (by rw [zx,zx]) (fun e he=>by rw [vu (hG' e he)];exact hsz.symm) (by rw [zV hG'];exact hG') ?_
 rw [zV hF',zV hG']
 refine ⟨by rw [zx,zx],fun j x e=>?_⟩
 rw [yg] at e
 by_cases hj : j < W
 ·rw [if_pos hj] at e
  cases e
  exact ⟨F j,by rw [yg,if_pos hj],hf j hj⟩
 ·rw [if_neg hj] at e;cases e
theorem vF : ∀ {H : List Blk},(∀ x ∈ H,(match x with | .free=>true | _=>false) = false) -> qm H = false
 | [],_=>rfl
 | x :: H,h=>by
   have h1:=h x List.mem_cons_self
   have h2:=vF (H:=H) fun y hy=>h y (List.mem_cons_of_mem _ hy)
   cases x <;> first|exact h2 | cases h1
theorem XRun.heap {P : Program} {T : Tab} {N : Nat} {r : Option Nat} {own : List Nat} {c : Code} {Q : Post} {D : List Nat} {σ : St} {H : List Blk} (H' : List Blk) (h : H' = H) (x : XRun P T N r own c Q D σ H') : XRun P T N r own c Q D σ H:=h ▸ x
end GA
end
section
namespace GA
open Go Go.RowKit Go.Proofs
def mkT (P M N : Nat) (W : T3 Int) : List Rs:=vecF P fun p=>(false,vecF M fun m=>(false,vecF N fun l=>W p m l))
theorem zaW {P M N : Nat} {W V : T3 Int} (h : ∀ p m l,p < P -> m < M -> l < N -> W p m l = V p m l) : mkT P M N W = mkT P M N V:=
 zB fun p hp=>congrArg _ (zB fun m hm=>congrArg _ (zB fun l hl=>h p m l hp hm hl))
theorem gA (P M N : Nat) (W : T3 Int) : (mkT P M N W).length = P:=zx _ _
theorem mkT_p {P M N : Nat} {W : T3 Int} {p : Nat} (h : p < P) : (mkT P M N W).getD p default = (false,vecF M fun m=>(false,vecF N fun l=>W p m l)):=kv _ h
theorem mkT_m {P M N : Nat} {W : T3 Int} {p m : Nat} (h : p < P) (h2 : m < M) : ((mkT P M N W).getD p default).2.getD m default = (false,vecF N fun l=>W p m l):=by rw [mkT_p h];exact kv _ h2
theorem mkT_at {P M N : Nat} {W : T3 Int} {y : Sta} (h : y.p < P) (h2 : y.m < M) (h3 : y.l < N) : tbN (mkT P M N W) y = W y.p y.m y.l:=by
 unfold tbN;rw [mkT_m h h2];exact kv _ h3
theorem mkT_ok {s : Sn} {P M N : Nat} {W : T3 Int} (hP : (P : Int) = s.places) (hM : (M : Int) = s.last + 1) (hN : N = allN s + 1) (hW : ∀ p m l,p < P -> m < M -> l < N -> -1 <= W p m l /\ W p m l <= 60) : TbOk s (mkT P M N W):=by
 have hl:=gA P M N W
 have hb : ∀ p,p < P -> ((mkT P M N W).getD p default).2.length = M:=fun p hp=>by rw [mkT_p hp];exact zx _ _
 have hc : ∀ p m,p < P -> m < M -> (((mkT P M N W).getD p default).2.getD m default).2.length = N:=fun p m hp hm=>by rw [mkT_m hp hm];exact zx _ _
 refine ⟨by rw [hl];exact hP,fun p hp=>?_,fun p m hp hm=>?_,fun p m l hp hm hl'=>?_⟩
 ·rw [hb p (by omega)];exact hM
 ·rw [hl] at hp
  rw [hb p hp] at hm
  rw [hc p m hp hm];exact hN
 ·rw [hl] at hp
  rw [hb p hp] at hm
  rw [hc p m hp hm] at hl'
  have e : tbN (mkT P M N W) ⟨p,m,l⟩ = W p m l:=mkT_at (y:=⟨p,m,l⟩) hp hm hl'
  rw [e];exact hW p m l hp hm hl'
def rowI (M p : Nat) : Nat:=1 + p * (M + 1)
def celI (M p m : Nat) : Nat:=rowI M p + 1 + m
theorem rowI_q {M p : Nat} : (rowI M p - 1) / (M + 1) = p /\ (rowI M p - 1) % (M + 1) = 0:=by
 unfold rowI
 rw [Nat.add_sub_cancel_left]
 exact ⟨Nat.mul_div_cancel _ (by omega),Nat.mul_mod_left _ _⟩
theorem celI_q {M p m : Nat} (h : m < M) : (celI M p m - 1) / (M + 1) = p /\ (celI M p m - 1) % (M + 1) = m + 1:=by
 unfold celI rowI
 rw [show 1 + p * (M + 1) + 1 + m - 1 = (m + 1) + p * (M + 1) by omega]
 exact ⟨by rw [Nat.add_mul_div_right _ _ (by omega),Nat.div_eq_of_lt (by omega)];omega,by rw [Nat.add_mul_mod_self_right,Nat.mod_eq_of_lt (by omega)]⟩
theorem ws (M p : Nat) : rowI M (p + 1) = rowI M p + 1 + M:=by unfold rowI;rw [Nat.add_mul,Nat.one_mul];omega
theorem q8 {M p q : Nat} (h : p <= q) : rowI M p <= rowI M q:=by
 unfold rowI
 have:=Nat.mul_le_mul_right (M + 1) h
 omega
def memB (M N P0 m0 : Nat) (W : T3 Int) (j : Nat) : Blk:=
 if j = 0 then .grow 23 (decide (P0 = 0)) (vecF P0 fun p=>.gr (rowI M p) M)
 else if (j - 1) % (M + 1) = 0 then
  .grow 22 (decide ((j - 1) / (M + 1) = P0 /\ m0 = 0)) (vecF (if (j - 1) / (M + 1) = P0 then m0 else M) fun m=>.gr (celI M ((j - 1) / (M + 1)) m) N)
 else .grow 3 false (zvs N fun l=>W ((j - 1) / (M + 1)) ((j - 1) % (M + 1) - 1) l)
theorem jU {M N P0 m0 : Nat} {W : T3 Int} : memB M N P0 m0 W 0 = .grow 23 (decide (P0 = 0)) (vecF P0 fun p=>.gr (rowI M p) M):=if_pos rfl
theorem jc {M N P0 m0 : Nat} {W : T3 Int} (p : Nat) : memB M N P0 m0 W (rowI M p) = .grow 22 (decide (p = P0 /\ m0 = 0)) (vecF (if p = P0 then m0 else M) fun m=>.gr (celI M p m) N):=by
 obtain ⟨h1,h2⟩:=rowI_q (M:=M) (p:=p)
 unfold memB
 rw [if_neg (by unfold rowI;omega),if_pos h2,h1]
theorem wA {M N P0 m0 : Nat} {W : T3 Int} {p m : Nat} (h : m < M) : memB M N P0 m0 W (celI M p m) = .grow 3 false (zvs N fun l=>W p m l):=by
 obtain ⟨h1,h2⟩:=celI_q (p:=p) h
 unfold memB
 rw [if_neg (by unfold celI;omega),if_neg (by rw [h2];omega),h1,h2];rfl
def memW (M N P : Nat) (W : T3 Int) : List Blk:=vecF (rowI M P) (memB M N P 0 W)
theorem vX (M N P : Nat) (W : T3 Int) : (memW M N P W).length = rowI M P:=zx _ _
theorem zbi {M P p : Nat} (h : p < P) : rowI M p < rowI M P:=by
 have:=q8 (M:=M) (show p + 1 <= P by omega)
 rw [ws] at this;omega
theorem gF {M P p m : Nat} (h : p < P) (hm : m < M) : celI M p m < rowI M P:=by
 have:=q8 (M:=M) (show p + 1 <= P by omega)
 rw [ws] at this;unfold celI;omega
theorem memW_t {M N P : Nat} {W : T3 Int} (hP : 0 < P) : lget (memW M N P W) 0 = some (.grow 23 false (vecF P fun p=>.gr (rowI M p) M)):=by
 unfold memW
 rw [kx (by unfold rowI;omega),jU,decide_eq_false (by omega)]
theorem memW_r {M N P : Nat} {W : T3 Int} {p : Nat} (h : p < P) : lget (memW M N P W) (rowI M p) = some (.grow 22 false (vecF M fun m=>.gr (celI M p m) N)):=by
 unfold memW
 rw [kx (zbi h),jc,decide_eq_false (by omega),if_neg (by omega)]
theorem memW_c {M N P : Nat} {W : T3 Int} {p m : Nat} (h : p < P) (hm : m < M) : lget (memW M N P W) (celI M p m) = some (.grow 3 false (zvs N fun l=>W p m l)):=by
 unfold memW
 rw [kx (gF h hm),wA hm]
theorem zb2 {M N P : Nat} {W : T3 Int} {p m l : Nat} {v : Int} (h : p < P) (hm : m < M) : (memW M N P W).set (celI M p m) (.grow 3 false (zvs N (updV (fun l=>W p m l) l v))) = memW M N P (upd3 W p m l v):=by
 unfold memW
 rw [yA]
 refine zB fun j hj=>?_
 unfold updV
 by_cases e : j = celI M p m
 ·rw [if_pos e,e,wA hm]
  congr 2
  funext l'
  unfold upd3
  by_cases e2 : l' = l
  ·rw [if_pos e2,if_pos ⟨rfl,rfl,e2⟩]
  ·rw [if_neg e2,if_neg (fun h=>e2 h.2.2)]
 ·rw [if_neg e]
  unfold memB
  by_cases e0 : j = 0
  ·rw [if_pos e0,if_pos e0]
  rw [if_neg e0,if_neg e0]
  by_cases e1 : (j - 1) % (M + 1) = 0
  ·rw [if_pos e1,if_pos e1]
  rw [if_neg e1,if_neg e1]
  congr 2
  funext l'
  unfold upd3
  rw [if_neg]
  rintro ⟨h1,h2,-⟩
  refine e ?_
  have:=Nat.div_add_mod (j - 1) (M + 1)
  rw [h1] at this
  unfold celI rowI
  rw [Nat.mul_comm] at this
  omega
theorem zaN {M N P : Nat} (W : T3 Int) (hP : 0 < P) : Froz Tryz.prog (memW M N P W) (.gr 0 P) (.sl false ((mkT P M N W).map rsT)):=by
 unfold mkT
 rw [yF]
 refine va (memW_t hP) (by kernel_rfl) (fun _ _=>rfl) (fun _ _=>rfl) fun p hp=>?_
 show Froz _ _ _ (.sl false ((vecF M fun m=>(false,vecF N fun l=>W p m l)).map rwA))
 rw [yF]
 refine va (memW_r hp) (by kernel_rfl) (fun _ _=>rfl) (fun _ _=>rfl) fun m hm=>?_
 exact Froz.grow (memW_c hp hm) (y7 _ _) (jP _ _)
def bldW (M N p m : Nat) (W : T3 Int) : List Blk:=vecF (rowI M p + 1 + m) (memB M N p m W)
theorem bld_init (M N : Nat) (W : T3 Int) : vecF (rowI M 0) (memB M N 0 0 W) = [.grow 23 true []]:=by
 have e : rowI M 0 = 0 + 1:=by unfold rowI;omega
 rw [e,yJ,jU,decide_eq_true rfl,zL,zL];rfl
theorem bld_row (M N p : Nat) (W : T3 Int) : vecF (rowI M p) (memB M N p 0 W) ++ [Blk.grow 22 true []] = bldW M N p 0 W:=by
 refine vo (fun _ _=>rfl) ?_
 rw [jc,decide_eq_true ⟨rfl,rfl⟩,if_pos rfl,zL];rfl
theorem bld_len (M N p m : Nat) (W : T3 Int) : (bldW M N p m W).length = celI M p m:=zx _ _
theorem bld_r (M N p m : Nat) (W : T3 Int) : lget (bldW M N p m W) (rowI M p) = some (.grow 22 (decide (p = p /\ m = 0)) (vecF m fun m=>.gr (celI M p m) N)):=by
 unfold bldW
 rw [kx (by omega),jc,if_pos rfl]
theorem bld_t (M N p m : Nat) (W : T3 Int) : lget (bldW M N p m W) 0 = some (.grow 23 (decide (p = 0)) (vecF p fun p=>.gr (rowI M p) M)):=by
 unfold bldW
 rw [kx (by unfold rowI;omega),jU]
theorem qd {M j p : Nat} (h0 : j ≠ 0) (h : (j - 1) % (M + 1) = 0) (hp : (j - 1) / (M + 1) = p) : j = rowI M p:=by
 have:=Nat.div_add_mod (j - 1) (M + 1)
 rw [hp,h,Nat.mul_comm] at this
 unfold rowI;omega
theorem bld_app {M N p m : Nat} {W : T3 Int} (hm : m < M) : (bldW M N p m W ++ [Blk.grow 3 false (zvs N fun l=>W p m l)]).set (rowI M p) (Blk.grow 22 false (vecF m (fun m=>AV.gr (celI M p m) N) ++ [AV.gr (celI M p m) N])) = bldW M N p (m + 1) W:=by
 have h1 : bldW M N p m W ++ [Blk.grow 3 false (zvs N fun l=>W p m l)] = vecF (rowI M p + 1 + (m + 1)) (memB M N p m W):=by
  unfold bldW
  exact vo (fun _ _=>rfl) (wA hm)
 rw [h1,yA]
 unfold bldW
 refine zB fun j hj=>?_
 unfold updV
 by_cases e : j = rowI M p
 ·rw [if_pos e,e,jc,if_pos rfl,decide_eq_false (by omega),yJ]
 ·rw [if_neg e]
  unfold memB
  by_cases e0 : j = 0
  ·rw [if_pos e0,if_pos e0]
  rw [if_neg e0,if_neg e0]
  by_cases e1 : (j - 1) % (M + 1) = 0
  ·have hq : (j - 1) / (M + 1) ≠ p:=fun h=>e (qd e0 e1 h)
   rw [if_pos e1,if_pos e1,decide_eq_false (fun h=>hq h.1),decide_eq_false (fun h=>hq h.1),if_neg hq,if_neg hq]
  ·rw [if_neg e1,if_neg e1]
theorem bld_next {M N p : Nat} {W : T3 Int} (hM : 0 < M) : (bldW M N p M W).set 0 (Blk.grow 23 false (vecF p (fun p=>AV.gr (rowI M p) M) ++ [AV.gr (rowI M p) M])) = vecF (rowI M (p + 1)) (memB M N (p + 1) 0 W):=by
 unfold bldW
 rw [yA,<- ws]
 refine zB fun j hj=>?_
 unfold updV
 by_cases e0 : j = 0
 ·rw [if_pos e0,e0,jU,decide_eq_false (by omega),yJ]
 ·rw [if_neg e0]
  unfold memB
  rw [if_neg e0,if_neg e0]
  by_cases e1 : (j - 1) % (M + 1) = 0
  ·have hq : (j - 1) / (M + 1) ≠ p + 1:=fun h=>by have:=qd e0 e1 h;omega
   rw [if_pos e1,if_pos e1,decide_eq_false (by omega),decide_eq_false (fun h=>hq h.1),if_neg hq]
   congr 2
   split <;> rfl
  ·rw [if_neg e1,if_neg e1]
end GA
end
section
namespace GA
open Go Go.RowKit Go.Proofs
theorem za1 {s : Sn} {P M N : Nat} {W : T3 Int} (hP : (P : Int) = s.places) (hM : (M : Int) = s.last + 1) (hN : N = allN s + 1) (hL : s.last <= 59) (h : ∀ y,vld s y -> W y.p y.m y.l = -1 \/ W y.p y.m y.l = zi s y) : TbOk s (mkT P M N W):=by
 refine mkT_ok hP hM hN fun p m l hp hm hl=>?_
 have hv : vld s ⟨p,m,l⟩:=⟨by show (p : Int) < s.places;omega,by show (m : Int) <= s.last;omega,by show l <= allN s;omega⟩
 have h1:=yQ s ⟨p,m,l⟩
 have h2:=vv s ⟨p,m,l⟩ hv.2.1
 have h2' : zi s ⟨p,m,l⟩ <= s.last + 1 - m:=h2
 rcases h _ hv with h | h <;> dsimp only at h <;> omega
def wrT (s : Sn) : List Rs:=mkT s.places.toNat (s.last + 1).toNat (allN s + 1) fun p m l=>zi s ⟨p,m,l⟩
theorem wrT_ok {s : Sn} (ok : SnOk s) (hL : s.last <= 59) : TbOk s (wrT s):=by
 have:=ok.p1;have:=ok.l1
 exact za1 (by omega) (by omega) rfl hL fun y _=>.inr rfl
theorem zbZ {s : Sn} (ok : SnOk s) {y : Sta} (hv : vld s y) : tbN (wrT s) y = zi s y:=by
 have:=hv.1;have:=hv.2.1;have:=hv.2.2
 exact mkT_at (by omega) (by omega) (by omega)
end GA
end
section
namespace GA
open Go Go.RowKit Go.Proofs
theorem st_vld {s : Sn} {p m l : Int} (h : sttE s p m l = 0) : vld s (stN p m l):=by
 obtain ⟨ok,h1,h2,h3,h4⟩:=yy.1 h
 exact ⟨by show ((p.toNat : Nat) : Int) < s.places;omega,by show ((m.toNat : Nat) : Int) <= s.last;omega,by show l.toNat <= allN s;omega⟩
theorem zaD (s : Sn) (hb : SnB s) (p m l : Int) (h : sttE s p m l ≠ 0) : Comp Tryz.prog 88 [snA s,xA p m l] (.tup [.int .i64 0,.int .i64 (sttE s p m l)]):=by
 have hs:=jq s hb p m l h
 generalize sttE s p m l = e at h hs
 refine Comp.body (T:=tab) (res:=[.tmp 4,.tmp 5]) za [] Tryz.func88 rfl (by kernel_rfl) Tryz.ntmps88 rfl (by simp only [List.length_cons,List.length_nil];decide) (by simp only [lowL,snL,xL];rfl) ?_;conv=>whnf
 repeat' first|((with_reducible first|refine XBr.y2 fun h=>?_|refine XBr.n2 fun h=>?_|refine XBr.bne (fun h=>?_) fun h=>?_) <;> conv=>whnf)|((refine zb.ret hs ?_);conv=>whnf)|fail
 exact ⟨.low rfl⟩
theorem fWorth_ok (s : Sn) (hb : SnB s) (p m l : Int) (h : sttE s p m l = 0) : Comp Tryz.prog 88 [snA s,xA p m l] (.tup [.int .i64 (zi s (stN p m l)),.int .i64 0]):=by
 have hs:=js s hb p m l h
 obtain ⟨ok,h1,h2,h3,h4⟩:=yy.1 h
 have hx:=v9 h1.1 h2.1 (show 0 <= l by omega)
 have hw:=jG s ok
 have hc:=wof_c s ok (stN p m l) (st_vld h)
 rw [<- hx] at hc
 refine Comp.body (T:=tab) (res:=[.tmp 4,.tmp 5]) za [] Tryz.func88 rfl (by kernel_rfl) Tryz.ntmps88 rfl (by simp only [List.length_cons,List.length_nil];decide) (by simp only [lowL,snL,xL];rfl) ?_;conv=>whnf
 repeat' first|((with_reducible first|refine XBr.y2 fun h=>?_|refine XBr.n2 fun h=>?_|refine XBr.bne (fun h=>?_) fun h=>?_|apply Chk.go|apply ChkA.go|apply ChkF.go|apply ChkB.go|apply zq.mk) <;> conv=>whnf)|(with_reducible first|apply XAnd.mk|exact trivial)|(exact zg.mk rfl rfl)|(apply Walk.drawN (id:=4) za zd [] [] (hsU _) [_,_,_,_,_,_] (by kernel_rfl) rfl)|((first|refine zb.ret hs ?_|refine zb.ret hw ?_|refine zb.ret hc ?_);conv=>whnf)|fail
 exact ⟨.low rfl⟩
theorem clone_zi (xs : List Int) (hx : xs.length <= 100000) : Comp Tryz.prog 57 [.sl false (ints xs)] (.sl false (ints xs)):=by
 have e1 : ((ints xs).length : Int) = xs.length:=by rw [zK]
 refine Comp.body (T:=tab) (res:=[.tmp 2]) za [5] Tryz.func57 rfl (by kernel_rfl) Tryz.ntmps57 rfl (by simp only [List.length_cons,List.length_nil];decide) (by simp only [lowL,AV.low,lowI];rfl) ?_;conv=>whnf
 repeat' first|((with_reducible apply XBr.ff);conv=>whnf)|(refine zh.a ?_;conv=>whnf)|fail
 exact ⟨Froz.grow rfl (by simp) (lowI xs)⟩
theorem zc7 {s : Sn} (ok : SnOk s) {p m : Nat} (hp : (p : Int) < s.places) (hm : (m : Int) <= s.last) : ((wTab s).drop (976 * p + 16 * m)).take (allN s + 1) = zvs (allN s + 1) fun l=>zi s ⟨p,m,l⟩:=by
 have hal:=ym ok;have p2:=ok.p2;have l2:=ok.l2
 apply List.ext_getElem?
 intro l
 rw [List.getElem?_take]
 by_cases h : l < allN s + 1
 ·rw [if_pos h,List.getElem?_drop,wTab_at s ok ⟨hp,hm,by show l <= allN s;omega⟩]
  unfold zvs
  rw [List.getElem?_map,yg,if_pos h];rfl
 ·rw [if_neg h,List.getElem?_eq_none (by rw [y7];omega)]
def wrR (s : Sn) (p m : Nat) : AV:=rwA (false,vecF (allN s + 1) fun l=>zi s ⟨p,m,l⟩)
def wrP (s : Sn) (M p : Nat) : AV:=.sl false (vecF M (wrR s p))
def wrE (s : Sn) (M p q : Nat) : AV:=if q < p then wrP s M q else .sl true []
theorem wrE_one (s : Sn) (M p : Nat) (P : Nat) : ∀ x ∈ vecF P (wrE s M p),x.one = true:=fun x hx=>by
 obtain ⟨q,-,rfl⟩:=yd.1 hx
 unfold wrE;split <;> rfl
theorem wrR_low {n : Nat} (s : Sn) (p m : Nat) : (wrR s p m).low n = true:=rwL _
theorem wrP_low {n : Nat} (s : Sn) (M p : Nat) : (wrP s M p).low n = true:=by
 show lowL n (vecF M (wrR s p)) = true
 rw [zw];intro x hx
 obtain ⟨q,-,rfl⟩:=yd.1 hx
 exact wrR_low s p q
theorem wrE_low {n : Nat} (s : Sn) (M p P : Nat) : lowL n (vecF P (wrE s M p)) = true:=by
 rw [zw];intro x hx
 obtain ⟨q,-,rfl⟩:=yd.1 hx
 unfold wrE;split
 ·exact wrP_low s M q
 ·rfl
theorem wrE_at {s : Sn} {M p P : Nat} (h : p < P) : (vecF P (wrE s M p))[p]? = some (.sl true []):=by
 rw [yg,if_pos h];unfold wrE;rw [if_neg (by omega)]
theorem wrE_next {s : Sn} {M p P : Nat} (h : p < P) : (vecF P (wrE s M p)).set p (wrP s M p) = vecF P (wrE s M (p + 1)):=by
 rw [yA]
 refine zB fun q hq=>?_
 unfold updV wrE
 by_cases e : q = p
 ·rw [if_pos e,e,if_pos (by omega)]
 ·rw [if_neg e]
  by_cases e2 : q < p
  ·rw [if_pos e2,if_pos (by omega)]
  ·rw [if_neg e2,if_neg (by omega)]
theorem wrE_0 (s : Sn) (M P : Nat) : vecF P (wrE s M 0) = List.replicate P (.sl true []):=by
 rw [<- yz]
 refine zB fun q _=>?_
 unfold wrE;rw [if_neg (by omega)]
theorem wrE_all (s : Sn) (M P : Nat) (hM : M = (s.last + 1).toNat) (hP : P = s.places.toNat) : vecF P (wrE s M P) = (wrT s).map rsT:=by
 unfold wrT mkT
 rw [yF,<- hM,<- hP]
 refine zB fun p hp=>?_
 unfold wrE
 rw [if_pos hp]
 show AV.sl false _ = AV.sl false _
 rw [yF];rfl
theorem zb.as {P : Program} {f : FuncId} {rs rs' : List AV} {H : List Blk} {k : AV -> List Blk -> Prop} (e : rs' = rs) (x : zb P f rs' H k) : zb P f rs H k:=e ▸ x
theorem fMade_no (s : Sn) (hb : SnB s) (h : snE s ≠ 0) : Comp Tryz.prog 8 [snA s] (.tup [.sl true [],.int .i64 (snE s)]):=by
 have hs:=yp s hb h
 generalize snE s = e at h hs
 refine Comp.body (T:=tab) (res:=[.tmp 2,.tmp 3]) za [] Tryz.func8 rfl (by kernel_rfl) Tryz.ntmps8 rfl (by simp only [List.length_cons,List.length_nil];decide) (by simp only [lowL,snL];rfl) ?_;conv=>whnf
 repeat' first|((with_reducible first|refine XBr.y2 fun h=>?_|refine XBr.n2 fun h=>?_|refine XBr.bne (fun h=>?_) fun h=>?_) <;> conv=>whnf)|((refine zb.ret hs ?_);conv=>whnf)|fail
 exact ⟨.low rfl⟩
theorem fMade_ok (s : Sn) (hb : SnB s) (ok : SnOk s) : Comp Tryz.prog 8 [snA s] (.tup [.sl false ((wrT s).map rsT),.int .i64 0]):=by
 have p1:=ok.p1;have p2:=ok.p2;have l1:=ok.l1;have l2:=ok.l2
 have hal:=ym ok
 have ho:=z4 s hb ok
 have hw:=jG s ok
 have hac:=vb s ok
 obtain ⟨P0,hP0⟩ : ∃ P0 : Nat,s.places = P0:=⟨s.places.toNat,by omega⟩
 obtain ⟨L0,hL0⟩ : ∃ L0 : Nat,s.last = L0:=⟨s.last.toNat,by omega⟩
 refine Comp.body (T:=tab) (res:=[.tmp 2,.tmp 3]) za [] Tryz.func8 rfl (by kernel_rfl) Tryz.ntmps8 rfl (by simp only [List.length_cons,List.length_nil];decide) (by simp only [lowL,snL];rfl) ?_;conv=>whnf
 repeat' first|((with_reducible first|refine XBr.y2 fun h=>?_|refine XBr.n2 fun h=>?_|refine XBr.bne (fun h=>?_) fun h=>?_) <;> conv=>whnf)|((first|refine zh.a ?_|refine zb.ret ho ?_|refine zb.ret hw ?_|refine zh.mk List.length_replicate ?_);conv=>whnf)|fail
 refine Walk.loopGK za [] [(1,_),(2,_),(3,_),(4,_),(6,_),(24,_)] ⟨rfl,rfl,rfl,rfl,rfl,rfl,trivial⟩ (fun p : Nat=>p <= P0) (fun p=>[(7,.gr 0 P0),(25,natA p)]) (fun p=>[.grow 23 false (vecF P0 (wrE s (L0 + 1) p))]) (fun p=>P0 - p) 0 (Nat.zero_le _) (by rw [wrE_0];show [Blk.grow _ _ (List.replicate P0 _)] = [Blk.grow _ _ (List.replicate s.places.toNat _)];rw [hP0,Int.toNat_natCast]) ⟨(by show some (AV.gr 0 s.places.toNat) = some (AV.gr 0 P0);rw [hP0,Int.toNat_natCast]),rfl,trivial⟩ ?_ (fun _ _=>(show (1 : Nat) <= 1 from Nat.le_refl 1)) ?_
 ·intro p _
  refine ⟨fun z hz=>?_,fun z hz=>?_⟩
  ·rw [List.mem_singleton] at hz;subst hz;exact wrE_low _ _ _ _
  ·simp only [List.cons_append,List.nil_append,List.mem_cons,List.not_mem_nil,or_false] at hz
   rcases hz with rfl | rfl | rfl | rfl | rfl | rfl | rfl | rfl <;> first | rfl|exact snCL s|exact zG s|exact zaE s
 intro p hp
 have hnx : p < P0 -> (vecF P0 (wrE s (L0 + 1) p)).set p (wrP s (L0 + 1) p) = vecF P0 (wrE s (L0 + 1) (p + 1)):=wrE_next
 have hone:=wrE_one s (L0 + 1) p P0
 have hat : p < P0 -> (vecF P0 (wrE s (L0 + 1) p))[p]? = some (.sl true []):=wrE_at
 have hel:=wrE_low (n:=0) s (L0 + 1) p P0
 have hlen : (vecF P0 (wrE s (L0 + 1) p)).length = P0:=zx _ _
 have hall : p = P0 -> vecF P0 (wrE s (L0 + 1) p) = (wrT s).map rsT:=fun h=>by rw [h];exact wrE_all s _ _ (by omega) (by omega)
 generalize vecF P0 (wrE s (L0 + 1) p) = els at hnx hone hat hel hlen hall
 conv=>whnf
 by_cases hlt : p < P0
 ·have hlt' : p < els.length:=by omega
  have hsl : ∀ v,(els.set p v).length = P0:=fun v=>by rw [List.length_set];exact hlen
  repeat' ((with_reducible first|refine XBr.y fun h=>?_|refine XBr.n fun h=>?_|refine XBr.dec (fun h=>?_) fun h=>?_|refine XInt.a ?_) <;> conv=>whnf)
  refine Walk.nilRowIn 0 p 22 rfl hone (hat hlt) ?_
  refine Walk.thenDo ?_
  refine Walk.loopGK za [] [(1,_),(2,_),(3,_),(4,_),(6,_),(7,_),(8,_),(24,_),(25,_),(30,_)] ⟨rfl,rfl,rfl,rfl,rfl,rfl,rfl,rfl,rfl,rfl,trivial⟩ (fun m : Nat=>m <= L0 + 1) (fun m=>[(31,natA m)]) (fun m=>[.grow 23 false (els.set p (.gr 1 m)),.grow 22 (vecF m (wrR s p)).isEmpty (vecF m (wrR s p))]) (fun m=>L0 + 1 - m) 0 (Nat.zero_le _) (by rw [show vecF 0 (wrR s p) = [] by rw [zL];rfl];rfl) ⟨rfl,trivial⟩ ?_ (fun _ _=>(show (2 : Nat) <= 2 from Nat.le_refl 2)) ?_
  ·intro m _
   refine ⟨fun z hz=>?_,fun z hz=>?_⟩
   ·simp only [List.mem_cons,List.not_mem_nil,or_false] at hz
    rcases hz with rfl | rfl
    ·show lowL 2 (els.set p (.gr 1 m)) = true
     rw [zw]
     intro y hy
     rcases List.mem_or_eq_of_mem_set hy with hy | rfl
     ·exact AV.low_mono (Nat.zero_le _) ((zw.1 hel) y hy)
     ·rfl
    ·show lowL 2 (vecF m (wrR s p)) = true
     rw [zw];intro y hy
     obtain ⟨q,-,rfl⟩:=yd.1 hy
     exact wrR_low s p q
   ·simp only [List.cons_append,List.nil_append,List.mem_cons,List.not_mem_nil,or_false] at hz
    rcases hz with rfl | rfl | rfl | rfl | rfl | rfl | rfl | rfl | rfl | rfl | rfl <;> first | rfl|exact snCL s|exact zG s|exact zaE s
  intro m hm
  have hRs:=yJ m (wrR s p)
  have hRl : (vecF m (wrR s p)).length = m:=zx _ _
  have hRP : m = L0 + 1 -> AV.sl false (vecF m (wrR s p)) = wrP s (L0 + 1) p:=fun h=>by rw [h];rfl
  have hRe : m = L0 + 1 -> (vecF m (wrR s p)).isEmpty = false:=fun h=>by
   cases hh : vecF m (wrR s p) with
   | nil=>rw [hh] at hRl;simp at hRl;omega
   | cons _ _=>rfl
  generalize vecF m (wrR s p) = R at hRs hRl hRP hRe
  conv=>whnf
  by_cases hlt2 : m < L0 + 1
  ·have hrow : List.take (((allN s : Nat) : Int) + 1 - 0).toNat (List.drop (Int.toNat 0) (List.drop ((m : Int).toNat * 16) (List.drop ((p : Int).toNat * 976) (wTab s)))) = ints (vecF (allN s + 1) fun l=>zi s ⟨p,m,l⟩):=by
    have h:=zc7 ok (p:=p) (m:=m) (by omega) (by omega)
    rw [fQ] at h
    rw [<- h,List.drop_drop,List.drop_drop]
    congr 2 <;> omega
   have hcl:=clone_zi (vecF (allN s + 1) fun l=>zi s ⟨p,m,l⟩) (by rw [zx];omega)
   have hwl : (wTab s).length = 4880:=y7 _ _
   repeat' ((with_reducible first|refine XBr.y fun h=>?_|refine XBr.n fun h=>?_|refine XBr.dec (fun h=>?_) fun h=>?_) <;> conv=>whnf)
   apply Walk.drawX za zd [] [18,20] (hsC [_,_,_]) [_,_,_,_,_,_,_,_,_,_,_,_,_,_,_,_,_,_,_,_,_] (by kernel_rfl) rfl
   ·skip
    repeat' first|((with_reducible first|refine XInt.a ?_|apply Chk.go|apply ChkA.go);conv=>whnf)|(refine zh.a ?_;conv=>whnf)|(with_reducible first|apply XAnd.mk|exact trivial)|(exact zg.mk rfl rfl)|((first|(first|refine XGet.set rfl hlt' hlen.symm ?_|refine XArr.pim (by omega) (by omega) ?_|refine zb.ret hac ?_)|((refine zh.mk ⟨?_,by omega,by omega,by omega⟩ ?_);(simp only [List.length_drop,hwl];omega))|(refine zh.mk ⟨hsl _,rfl,by omega,by omega⟩ ?_)|((refine zb.as (congrArg (fun l=>[AV.sl false l]) hrow.symm) ?_);(refine zb.ret hcl ?_))|(refine XPut.set rfl hlt' hlen.symm ?_));conv=>whnf)|fail
   ·skip
    repeat' first|((with_reducible first|refine XInt.a ?_|apply Chk.go|apply ChkF.go|apply ChkB.go);conv=>whnf)|(with_reducible first|apply XAnd.mk|exact trivial)|(exact zg.mk rfl rfl)|((first|(first|refine XArr.pim (by omega) (by omega) ?_|refine zb.ret hac ?_)|((refine zh.mk ⟨?_,by omega,by omega,by omega⟩ ?_);(simp only [List.length_drop,hwl];omega))|(refine zh.mk ⟨hsl _,rfl,by omega,by omega⟩ ?_));conv=>whnf)|fail
   conv=>whnf
   repeat' ((with_reducible refine XInt.a ?_);conv=>whnf)
   refine zl.go (m + 1) [] (by omega) (by omega) ?_ ⟨rfl,rfl,rfl,rfl,rfl,rfl,rfl,rfl,rfl,rfl,rfl,trivial⟩
   show [Blk.grow _ false (els.set p (.gr 1 (m + 1))),Blk.grow _ (vecF (m + 1) (wrR s p)).isEmpty (vecF (m + 1) (wrR s p))] ++ [] = _
   rw [hRs,zy];rfl
  obtain rfl : m = L0 + 1:=by omega
  repeat' ((with_reducible first|refine XBr.y fun h=>?_|refine XBr.n fun h=>?_|refine XBr.dec (fun h=>?_) fun h=>?_) <;> conv=>whnf)
  refine XDo.freezeRow 0 p 1 (L0 + 1) rfl ?_ ?_ rfl (by decide) hRl (XDo.run ?_)
  ·intro z hz
   rcases List.mem_or_eq_of_mem_set hz with hz | rfl
   ·exact hone z hz
   ·rfl
  ·exact List.getElem?_set_self hlt'
  conv=>whnf
  repeat' ((with_reducible refine XInt.a ?_);conv=>whnf)
  refine zl.go (p + 1) [.dead] (by omega) (by omega) ?_ ⟨rfl,rfl,rfl,rfl,rfl,rfl,rfl,rfl,trivial⟩
  show [Blk.grow _ false (vecF P0 (wrE s (L0 + 1) (p + 1)))] ++ [Blk.dead] = [Blk.grow _ false ((els.set p _).set p (.sl R.isEmpty R)),.dead]
  rw [List.set_set,hRe rfl,hRP rfl,hnx hlt];rfl
 obtain rfl : p = P0:=by omega
 obtain rfl:=hall rfl
 repeat' ((with_reducible first|refine XBr.y fun h=>?_|refine XBr.n fun h=>?_|refine XBr.dec (fun h=>?_) fun h=>?_) <;> conv=>whnf)
 exact ⟨Froz.tup (.cons (Froz.grow rfl hlen hel) (.cons (.low rfl) .nil))⟩
end GA
end
section
namespace GA
open Go Go.RowKit Go.Proofs
theorem equal_sg (n1 n2 : Bool) (xs : List (Int × Int)) (hx : xs.length <= 100000) : Comp Tryz.prog 253 [.sl n1 (xs.map (sgA)),.sl n2 (xs.map (sgA))] (.bool true):=by
 refine Comp.body (T:=tab) (res:=[.tmp 4]) za [] Tryz.func253 rfl (by kernel_rfl) Tryz.ntmps253 rfl (by simp only [List.length_cons,List.length_nil];decide) (by simp only [lowL,AV.low,zN];rfl) ?_;conv=>whnf
 repeat' ((with_reducible first|refine XBr.y2 fun h=>?_|refine XBr.n2 fun h=>?_|refine XBr.bne (fun h=>?_) fun h=>?_) <;> conv=>whnf)
 refine Walk.loopK za [] [(0,_),(1,_),(12,_)] ⟨rfl,rfl,rfl,trivial⟩ (fun i : Nat=>i <= xs.length) (fun i=>[(13,natA i)]) (fun _=>[]) (fun i=>xs.length - i) 0 (Nat.zero_le _) rfl ⟨rfl,trivial⟩ ?_
 intro i hi
 conv=>whnf
 have e1 : ((xs.map (sgA)).length : Int) = xs.length:=by rw [List.length_map]
 by_cases hlt : i < xs.length
 ·skip
  repeat' first|((with_reducible first|apply XBr.ff|refine XBr.y fun h=>?_|refine XBr.n fun h=>?_|refine XBr.dec (fun h=>?_) fun h=>?_|refine XInt.a ?_|apply Chk.go|apply ChkA.go|apply ChkF.go|apply ChkB.go|apply zq.mk) <;> conv=>whnf)|(refine XIx.a ?_;conv=>whnf)|(with_reducible first|apply XAnd.mk|exact trivial)|(exact zg.mk rfl rfl)|(apply Walk.drawN (id:=6) za zd [] [] (hsU _) [_,_,_,_,_,_,_,_,_] (by kernel_rfl) rfl)|((refine XEqA.mk ⟨[(xs.getD i default).1,(xs.getD i default).2],[(xs.getD i default).1,(xs.getD i default).2],rfl,rfl,rfl,rfl,?_⟩);exact zg.mk (show AV.bool (!(_ == _)) = AV.bool false by simp) rfl)|fail
  exact zj.go (i + 1) (by omega) (by omega) rfl ⟨rfl,rfl,rfl,rfl,trivial⟩
 obtain rfl : i = xs.length:=by omega
 repeat' ((with_reducible first|refine XBr.y fun h=>?_|refine XBr.n fun h=>?_|refine XBr.dec (fun h=>?_) fun h=>?_) <;> conv=>whnf)
 exact XOut.bool rfl
theorem eq_sg (n1 n2 : Bool) (xs : List (Int × Int)) (hx : xs.length <= 100000) : Comp Tryz.prog 86 [.sl n1 (xs.map (sgA)),.sl n2 (xs.map (sgA))] (.bool true):=by
 refine Comp.body (T:=tab) (res:=[.tmp 4]) za [] Tryz.func86 rfl (by kernel_rfl) Tryz.ntmps86 rfl (by simp only [List.length_cons,List.length_nil];decide) (by simp only [lowL,AV.low,zN];rfl) ?_;conv=>whnf
 repeat' ((refine zb.ret (equal_sg n1 n2 xs hx) ?_);conv=>whnf)
 exact XOut.bool rfl
theorem equal_wy (n1 n2 : Bool) (xs : List Wy) (hx : xs.length <= 100000) : Comp Tryz.prog 350 [.sl n1 (xs.map (wyA)),.sl n2 (xs.map (wyA))] (.bool true):=by
 refine Comp.body (T:=tab) (res:=[.tmp 4]) za [] Tryz.func350 rfl (by kernel_rfl) Tryz.ntmps350 rfl (by simp only [List.length_cons,List.length_nil];decide) (by simp only [lowL,AV.low,yB];rfl) ?_;conv=>whnf
 repeat' ((with_reducible first|refine XBr.y2 fun h=>?_|refine XBr.n2 fun h=>?_|refine XBr.bne (fun h=>?_) fun h=>?_) <;> conv=>whnf)
 refine Walk.loopK za [] [(0,_),(1,_),(12,_)] ⟨rfl,rfl,rfl,trivial⟩ (fun i : Nat=>i <= xs.length) (fun i=>[(13,natA i)]) (fun _=>[]) (fun i=>xs.length - i) 0 (Nat.zero_le _) rfl ⟨rfl,trivial⟩ ?_
 intro i hi
 conv=>whnf
 have e1 : ((xs.map (wyA)).length : Int) = xs.length:=by rw [List.length_map]
 by_cases hlt : i < xs.length
 ·skip
  repeat' first|((with_reducible first|apply XBr.ff|refine XBr.y fun h=>?_|refine XBr.n fun h=>?_|refine XBr.dec (fun h=>?_) fun h=>?_|refine XInt.a ?_|apply Chk.go|apply ChkA.go|apply ChkF.go|apply ChkB.go|apply zq.mk) <;> conv=>whnf)|(refine XIx.a ?_;conv=>whnf)|(with_reducible first|apply XAnd.mk|exact trivial)|(exact zg.mk rfl rfl)|(apply Walk.drawN (id:=6) za zd [] [] (hsU _) [_,_,_,_,_,_,_,_,_] (by kernel_rfl) rfl)|((refine XEqA.mk ⟨[(xs.getD i default).1,(xs.getD i default).2.1,(xs.getD i default).2.2],[(xs.getD i default).1,(xs.getD i default).2.1,(xs.getD i default).2.2],rfl,rfl,rfl,rfl,?_⟩);exact zg.mk (show AV.bool (!(_ == _)) = AV.bool false by simp) rfl)|fail
  exact zj.go (i + 1) (by omega) (by omega) rfl ⟨rfl,rfl,rfl,rfl,trivial⟩
 obtain rfl : i = xs.length:=by omega
 repeat' ((with_reducible first|refine XBr.y fun h=>?_|refine XBr.n fun h=>?_|refine XBr.dec (fun h=>?_) fun h=>?_) <;> conv=>whnf)
 exact XOut.bool rfl
theorem eq_wy (n1 n2 : Bool) (xs : List Wy) (hx : xs.length <= 100000) : Comp Tryz.prog 240 [.sl n1 (xs.map (wyA)),.sl n2 (xs.map (wyA))] (.bool true):=by
 refine Comp.body (T:=tab) (res:=[.tmp 4]) za [] Tryz.func240 rfl (by kernel_rfl) Tryz.ntmps240 rfl (by simp only [List.length_cons,List.length_nil];decide) (by simp only [lowL,AV.low,yB];rfl) ?_;conv=>whnf
 repeat' ((refine zb.ret (equal_wy n1 n2 xs hx) ?_);conv=>whnf)
 exact XOut.bool rfl
def zQ : Sn:=⟨3,0,2,12,false,[(0,1,2),(1,2,2)],false,[(false,[0,0,0]),(false,[0,0,0])],false,[(false,[(false,[(0,12)]),(false,[(0,9)]),(false,[(0,7)])]),(false,[(false,[(0,12)]),(false,[(0,6)]),(false,[(0,5)])])]⟩
theorem gP (nl : Bool) (hi : List Int) (hh : hi.length <= 100) : Comp Tryz.prog 54 [.sl nl (ints hi)] (trA (hi.isEmpty,hi.map fun n=>(false,[((0 : Int),n)]))):=by
 have e1 : ((ints hi).length : Int) = hi.length:=by rw [zK]
 refine Comp.body (T:=tab) (res:=[.cell 2 46]) za [] Tryz.func54 rfl (by kernel_rfl) Tryz.ntmps54 rfl (by simp only [List.length_cons,List.length_nil];decide) (by simp only [lowL,AV.low,lowI];rfl) ?_;conv=>whnf
 skip
 refine Walk.nilcell 1 0 43 rfl rfl ?_
 refine Walk.loopGK za [] [(2,_),(3,_),(6,_),(7,_)] ⟨rfl,rfl,rfl,rfl,trivial⟩ (fun k : Nat=>k <= hi.length) (fun k=>[(8,natA k)]) (fun k=>[.cells [.sl true []],.cells [.gr 2 k],.grow 43 (hi.take k).isEmpty (((hi.take k).map fun n=>((false,[((0 : Int),n)]) : Sps)).map spsA)]) (fun k=>hi.length - k) 0 (Nat.zero_le _) rfl ⟨rfl,trivial⟩ ?_ (fun _ _=>(show (3 : Nat) <= 3 from Nat.le_refl 3)) ?_
 ·intro k _
  refine ⟨fun z hz=>?_,fun z hz=>?_⟩
  ·simp only [List.mem_cons,List.not_mem_nil,or_false] at hz
   rcases hz with rfl | rfl | rfl <;> first | rfl|exact y9 _
  ·simp only [List.cons_append,List.nil_append,List.mem_cons,List.not_mem_nil,or_false] at hz
   rcases hz with rfl | rfl | rfl | rfl | rfl <;> first | rfl|exact lowI _
 intro k hk
 have hnx:=fun h=>zD (xs:=hi) (i:=k) h
 have hall : k = hi.length -> hi.take k = hi:=fun h=>by rw [h,List.take_length]
 have hkl : (hi.take k).length = k:=by rw [List.length_take];omega
 generalize hi.take k = R at hnx hall hkl
 have hRl : ((R.map fun n=>((false,[((0 : Int),n)]) : Sps)).map spsA).length = k:=by rw [List.length_map,List.length_map];exact hkl
 conv=>whnf
 by_cases hlt : k < hi.length
 ·skip
  repeat' first|((with_reducible first|refine XBr.y fun h=>?_|refine XBr.n fun h=>?_|refine XBr.dec (fun h=>?_) fun h=>?_|refine XInt.a ?_) <;> conv=>whnf)|((first|refine zh.a ?_|refine XIx.a ?_);conv=>whnf)|fail
  refine zl.go (k + 1) [] (by omega) (by omega) ?_ ⟨rfl,rfl,rfl,rfl,rfl,trivial⟩
  show [Blk.cells _,Blk.cells _,Blk.grow _ (hi.take (k + 1)).isEmpty (((hi.take (k + 1)).map fun n=>((false,[((0 : Int),n)]) : Sps)).map spsA)] ++ [] = _
  rw [hnx hlt,zy,List.map_append,List.map_append];rfl
 obtain rfl : k = hi.length:=by omega
 obtain rfl:=hall rfl
 repeat' ((with_reducible first|refine XBr.y fun h=>?_|refine XBr.n fun h=>?_|refine XBr.dec (fun h=>?_) fun h=>?_) <;> conv=>whnf)
 exact ⟨Froz.agg (one1 rfl) (.cons (Froz.grow rfl hRl (y9 _)) .nil)⟩
theorem three_c : Comp Tryz.prog 7 [] (snA zQ):=by
 have h1:=gP false [12,9,7] (by decide)
 have h2:=gP false [12,6,5] (by decide)
 refine Comp.body (T:=tab) (res:=[.cell 0 27]) za [] Tryz.func7 rfl (by kernel_rfl) Tryz.ntmps7 rfl (by simp only [List.length_cons,List.length_nil];decide) (by rfl) ?_;conv=>whnf
 repeat' ((first|refine zh.a ?_|refine zb.ret h1 ?_|refine zb.ret h2 ?_);conv=>whnf)
 exact ⟨Froz.low (snL zQ)⟩
theorem fe : SnB zQ:=⟨by decide,by decide,by decide,by decide,by decide,by decide⟩
theorem zbc : SnOk zQ:=zO.1 (by decide +kernel)
theorem zA : Comp Tryz.prog 17 [] (.bool true):=by
 have h0:=three_c
 have h1:=zcZ zQ fe 1 zbc (by decide) (by decide +kernel)
 have t1 : kU zQ 1 = 7:=by decide +kernel
 rw [t1] at h1
 have h2:=fDry_c zQ fe 1 7
 rw [show dryE zQ 1 7 = 0 by decide +kernel,show (if (0 : Int) = 0 then drN zQ (1 : Int).toNat (7 : Int).toNat else 0) = 1 by decide +kernel] at h2
 have h3:=zaT zQ fe 1 2 3 (by decide +kernel)
 rw [show zT zQ (stN 1 2 3) = [(0,2),(1,1),(2,2)] by decide +kernel] at h3
 have h4:=za2 zQ fe zbc 0 (by decide) false [(1,2),(2,2),(2,1),(1,2),(0,2)] (by decide)
 rw [show fixR zQ ((0 : Nat) : Int) [(1,2),(2,2),(2,1),(1,2),(0,2)] = (1,1) by decide +kernel,if_neg (by decide +kernel)] at h4
 have h5:=eq_sg false false [(0,2),(1,1),(2,2)] (by decide)
 refine Comp.body (T:=tab) (res:=[.tmp 0]) za [] Tryz.func17 rfl (by kernel_rfl) Tryz.ntmps17 rfl (by simp only [List.length_cons,List.length_nil];decide) (by rfl) ?_;conv=>whnf
 repeat' ((first|refine zh.a ?_|refine zb.ret h0 ?_|refine zb.ret h1 ?_|refine zb.ret h2 ?_|refine zb.ret h3 ?_|refine zb.ret h4 ?_);conv=>whnf)
 refine Walk.norm za [] [(1,_),(2,_),(3,_),(4,_),(5,_),(6,_),(7,_),(8,_),(9,_)] ⟨rfl,rfl,rfl,rfl,rfl,rfl,rfl,rfl,rfl,trivial⟩ ?_
 conv=>whnf
 repeat' first|((with_reducible first|apply XBr.tt|refine XBr.y1 fun h=>?_|refine XBr.n1 fun h=>?_|refine XBr.beq (fun h=>?_) fun h=>?_) <;> conv=>whnf)|((first|refine zh.a ?_|refine zb.ret h5 ?_);conv=>whnf)|fail
 exact ⟨.low rfl⟩
end GA
end
section
namespace GA
open Go Go.RowKit
section
variable {P : Program} {N : Nat} {ρ : Option Nat} {H : List Blk} {σ : St} {D : List Nat}
theorem Walk.freezeFlat {c : Code} {Q : Post} (j q i n : Nat) {t t' : TypeId} {nl nl' : Bool} {els els' ys : List AV} (hj : lget H j = some (.grow t nl els)) (hq : (flat els)[q]? = some (.gr i n)) (hi : lget H i = some (.grow t' nl' ys)) (hij : i ≠ j) (hn : ys.length = n)
  (hl : els'.length = els.length) (hc : ∀ y ∈ els',∃ y0 ∈ els,y.cells.length = y0.cells.length) (h1' : ∀ y ∈ flat els',y.one = true) (hf : flat els' = (flat els).set q (.sl nl' ys))
  (x : Walk P N ρ c Q D σ ((H.set i .dead).set j (.grow t nl els'))) : Walk P N ρ c Q D σ H:=by
 constructor
 intro E h β a w s
 rw [zo] at hi hj
 obtain ⟨h',s1,X1,hfz⟩:=s.sr.freeze hi
 have hj1 : (H.set i .dead)[j]? = some (.grow t nl els):=by rw [List.getElem?_set_ne hij];exact hj
 have hlt:=(List.getElem?_eq_some_iff.1 hq).1
 have hne : els ≠ []:=fun e=>by subst e;simp [flat] at hlt
 have hle : ∀ (l : List AV),l.length = els.length -> l ≠ []:=fun l e0 e=>by subst e;exact hne (List.length_eq_zero_iff.1 e0.symm)
 obtain ⟨s2,X2⟩:=s1.modify (β':=β) (w':=w) (x':=.grow t nl els') hj1 (fun _ _=>rfl) (.inr ⟨_,_,rfl,by rw [hl];exact Nat.le_refl _,fun _=>rfl⟩) s1.env (fun _ _ _=>rfl) (fun b e=>.inl (by unfold blkOf;rw [hj1];exact e)) (fun X=>by
  rcases s.sr.blk j _ hj with ⟨_,h0,_⟩ | ⟨_,h0,_⟩ | ⟨h0,b,cap,c,h1,h2,h3,h4,h5,h6,h7,h8,h9,us,h10,h11⟩
  ·subst h0;exact absurd rfl hne
  ·subst h0;exact absurd rfl hne
  ·refine .inr (.inr ⟨h0,b,cap,c,by rw [hl];exact h1,h2,h3,by rw [hl];exact h4,h5,h6,h7,fun y hy=>?_,fun y hy=>h1' y hy,us,fun k y ek=>?_,fun k y ek=>?_⟩)
   ·obtain ⟨y0,hy0,e⟩:=hc y hy
    rw [e];exact h8 y0 hy0
   ·rw [hf] at ek
    by_cases hke : q = k
    ·subst hke;exact h10 q _ hq
    ·rw [List.getElem?_set_ne hke] at ek;exact h10 k y ek
   ·rw [hf] at ek
    by_cases hke : q = k
    ·subst hke
     rw [List.getElem?_set_self hlt] at ek;cases ek
     exact vO s.sr hi hn (h11 q _ hq) (X1.trans X) hfz
    ·rw [List.getElem?_set_ne hke] at ek;exact (X1.trans X).rep (h11 k y ek))
 exact wpIn_mono (x.o E h' _ a w ⟨s2,fun u r e=>let ⟨v,h1,h2⟩:=s.fits u r e;⟨v,h1,(X1.trans X2).rep h2⟩,s.size,s.df.ext (X1.trans X2)⟩) fun _ _ _=>Conc.ext (X1.trans X2)
theorem Walk.freezeLast {c : Code} {Q : Post} (j i n : Nat) {t t' : TypeId} {nl nl' : Bool} {A ys : List AV} (hj : lget H j = some (.grow t nl (A ++ [.agg [.gr i n]]))) (hA : ∀ y ∈ A,∃ z,y = .agg [z] /\ z.one = true) (hi : lget H i = some (.grow t' nl' ys)) (hij : i ≠ j) (hn : ys.length = n)
  (x : Walk P N ρ c Q D σ ((H.set i .dead).set j (.grow t nl (A ++ [.agg [.sl nl' ys]])))) : Walk P N ρ c Q D σ H:=by
 have hfl : ∀ z : AV,flat (A ++ [AV.agg [z]]) = flat A ++ [z]:=fun z=>by simp [flat,AV.cells]
 have hla : (flat A).length = (flat A).length:=rfl
 refine Walk.freezeFlat j (flat A).length i n hj ?_ hi hij hn ?_ ?_ ?_ ?_ x
 ·rw [hfl,List.getElem?_append_right (Nat.le_refl _),Nat.sub_self];rfl
 ·rw [List.length_append,List.length_append];rfl
 ·intro y hy
  rcases List.mem_append.1 hy with hy | hy
  ·exact ⟨y,List.mem_append_left _ hy,rfl⟩
  ·rw [List.mem_singleton] at hy;subst hy
   exact ⟨_,List.mem_append_right _ (List.mem_singleton.2 rfl),rfl⟩
 ·intro y hy
  rw [hfl] at hy
  rcases List.mem_append.1 hy with hy | hy
  ·obtain ⟨e,he,hy⟩:=List.mem_flatMap.1 hy
   obtain ⟨z,rfl,hz⟩:=hA e he
   rw [show (AV.agg [z]).cells = [z] from rfl,List.mem_singleton] at hy
   subst hy;exact hz
  ·rw [List.mem_singleton] at hy;subst hy;rfl
 ·rw [hfl,hfl,List.set_append_right _ _ (Nat.le_refl _),Nat.sub_self];rfl
theorem Froz.slF {nl : Bool} {els els' : List AV} (hlen : els'.length = els.length) (hc : ∀ e' ∈ els',∃ e ∈ els,e'.cells.length = e.cells.length) (hone' : ∀ x ∈ flat els',x.one = true) (hs : yC P H (flat els) (flat els')) : Froz P H (.sl nl els) (.sl nl els'):=by
 intro E h β w s v hr
 cases hr with
 | slnil =>
   have : els' = []:=List.eq_nil_of_length_eq_zero hlen
   subst this;exact .slnil
 | slemp =>
   have : els' = []:=List.eq_nil_of_length_eq_zero hlen
   subst this;exact .slemp
 | sl us hn hne hb hw hw0 ho hcap hc3 h3 =>
   refine .sl us (by rw [hn,hlen]) (fun e=>hne (List.eq_nil_of_length_eq_zero (by rw [<- hlen,e];rfl))) (k7 s hb) (fun e he=>by obtain ⟨y,hy,e1⟩:=hc e he;rw [e1];exact hw y hy) hw0 hone' (by rw [hlen];exact hcap) (fun j x e=>?_) (fun j x e=>?_)
   ·obtain ⟨y,e1,_⟩:=hs.2 j x e;exact hc3 j y e1
   ·obtain ⟨y,e1,e2⟩:=hs.2 j x e;exact e2 E h β w s _ (h3 j y e1)
end
theorem w7.whole {Hn : List Blk} {r : AV} (lr : r.low Hn.length = true) (lH : ∀ x ∈ Hn,x.low Hn.length = true) : w7 Hn r r Hn:=by
 have hid : ∀ i,i < Hn.length -> rnF (List.range Hn.length) i = i:=fun i hi=>by
  unfold rnF
  rw [zo,List.getElem?_range hi]
 refine w7.mk' (List.range Hn.length) List.length_range List.nodup_range ?_ (AV.ren_low hid lr).symm
 have key : ∀ (l : List Blk) (i : Nat),Hn.drop i = l -> SelR (rnF (List.range Hn.length)) Hn i l:=by
  intro l
  induction l with
  | nil=>intro i _;trivial
  | cons x l ih =>
    intro i e
    have hi : i < Hn.length:=by
     refine Classical.byContradiction fun h=>?_
     rw [List.drop_eq_nil_of_le (by omega)] at e;cases e
    rw [List.drop_eq_getElem_cons hi] at e
    injection e with e1 e2
    refine ⟨?_,ih (i + 1) e2⟩
    rw [hid i hi,zo,List.getElem?_eq_getElem hi,e1,Blk.ren_low hid (lH x (by rw [<- e1];exact List.getElem_mem hi))]
 exact key Hn 0 List.drop_zero
end GA
end
section
namespace GA
open Go Go.RowKit Go.Proofs
def sp1 (n : Int) : Blk:=.grow 42 false [.agg [.int .i64 0,.int .i64 n]]
theorem three1_g : kC Tryz.prog 54 [.sl false [.int .i64 12,.int .i64 9,.int .i64 7]] (.agg [.gr 0 3]) [.grow 43 false [.gr 1 1,.gr 2 1,.gr 3 1],sp1 12,sp1 9,sp1 7]:=by
 refine kC.body (T:=tab) (res:=[.cell 2 46]) za [16] Tryz.func54 rfl (by kernel_rfl) Tryz.ntmps54 rfl (by simp only [List.length_cons,List.length_nil];decide) (by rfl) (by rfl) (fun x hx=>by simp only [List.mem_cons,List.not_mem_nil,or_false] at hx;rcases hx with rfl | rfl | rfl | rfl <;> rfl) ?_;conv=>whnf
 skip
 refine Walk.nilcell 1 0 43 rfl rfl ?_
 refine Walk.loopK za [16] [(2,_),(3,_),(6,_),(7,_)] ⟨rfl,rfl,rfl,rfl,trivial⟩ (fun j : Nat=>j <= 3) (fun j=>[(8,natA j)]) (fun j=>[.cells [.sl true []],.cells [.gr 2 j],.grow 43 (j == 0) (List.take j [.gr 3 1,.gr 4 1,.gr 5 1])] ++ List.take j [sp1 12,sp1 9,sp1 7]) (fun j=>3 - j) 0 (by decide) rfl ⟨rfl,trivial⟩ ?_
 intro j hj
 have hjj : j = 0 \/ j = 1 \/ j = 2 \/ j = 3:=by omega
 rcases hjj with rfl | rfl | rfl | rfl
 ·conv=>whnf
  repeat' first|((first|(with_reducible refine XBr.yes (by decide) ?_)|refine XIx.mk (by decide) (by decide) rfl ?_|(refine zh.mk ⟨rfl,rfl,by unfold Room;constructor <;> ((try simp) <;> omega)⟩ ?_));conv=>whnf)|((with_reducible refine XInt.a ?_);conv=>whnf)|(refine zh.a ?_;conv=>whnf)|fail
  exact zj.go 1 (by decide) (by decide) rfl ⟨rfl,rfl,rfl,rfl,rfl,trivial⟩
 ·conv=>whnf
  repeat' first|((first|(with_reducible refine XBr.yes (by decide) ?_)|refine XIx.mk (by decide) (by decide) rfl ?_|(refine zh.mk ⟨rfl,rfl,by unfold Room;constructor <;> ((try simp) <;> omega)⟩ ?_));conv=>whnf)|((with_reducible refine XInt.a ?_);conv=>whnf)|(refine zh.a ?_;conv=>whnf)|fail
  exact zj.go 2 (by decide) (by decide) rfl ⟨rfl,rfl,rfl,rfl,rfl,trivial⟩
 ·conv=>whnf
  repeat' first|((first|(with_reducible refine XBr.yes (by decide) ?_)|refine XIx.mk (by decide) (by decide) rfl ?_|(refine zh.mk ⟨rfl,rfl,by unfold Room;constructor <;> ((try simp) <;> omega)⟩ ?_));conv=>whnf)|((with_reducible refine XInt.a ?_);conv=>whnf)|(refine zh.a ?_;conv=>whnf)|fail
  exact zj.go 3 (by decide) (by decide) rfl ⟨rfl,rfl,rfl,rfl,rfl,trivial⟩
 ·conv=>whnf
  repeat' ((with_reducible refine XBr.no (by decide) ?_);conv=>whnf)
  exact w7.mk' [2,3,4,5] rfl (by decide) ⟨rfl,rfl,rfl,rfl,trivial⟩ rfl
def tr2 : Tru:=(false,[(false,[(0,12)]),(false,[(0,6)]),(false,[(0,5)])])
def thrA : AV:=.agg [.int .i64 3,.int .i64 0,.int .i64 2,.int .i64 12,.gr 0 2,.gr 2 2,.gr 7 2]
def thrH : List Blk:=[.grow 40 false [.agg [.int .i64 0,.int .i64 1,.int .i64 2],.agg [.int .i64 1,.int .i64 2,.int .i64 2]],.grow 3 false [.int .i64 0,.int .i64 0,.int .i64 0],.grow 22 false [.sl false [.int .i64 0,.int .i64 0,.int .i64 0],.gr 1 3],.grow 43 false [.gr 4 1,.gr 5 1,.gr 6 1],sp1 12,sp1 9,sp1 7,.grow 46 false [.agg [.gr 3 3],trA tr2]]
theorem three_g : kC Tryz.prog 7 [] thrA thrH:=by
 have h2:=gP false [12,6,5] (by decide)
 refine kC.body (T:=tab) (res:=[.cell 0 27]) za [4,6,7,14] Tryz.func7 rfl (by kernel_rfl) Tryz.ntmps7 rfl (by simp only [List.length_cons,List.length_nil];decide) (by rfl) (by rfl) (fun x hx=>by unfold thrH at hx;simp only [List.mem_cons,List.not_mem_nil,or_false] at hx;rcases hx with rfl | rfl | rfl | rfl | rfl | rfl | rfl | rfl <;> rfl) ?_;conv=>whnf
 repeat' first|((first|refine zb.give three1_g ?_|refine zb.ret h2 ?_);conv=>whnf)|(refine zh.a ?_;conv=>whnf)|fail
 exact w7.mk' [1,2,3,4,5,6,7,8] rfl (by decide) ⟨rfl,rfl,rfl,rfl,rfl,rfl,rfl,rfl,trivial⟩ rfl
theorem clone_ig (xs : List Int) (hx : xs.length <= 100000) : kC Tryz.prog 57 [.sl false (ints xs)] (.gr 0 xs.length) [.grow 3 false (ints xs)]:=by
 have e1 : ((ints xs).length : Int) = xs.length:=by rw [zK]
 refine kC.body (T:=tab) (res:=[.tmp 2]) za [5] Tryz.func57 rfl (by kernel_rfl) Tryz.ntmps57 rfl (by simp only [List.length_cons,List.length_nil];decide) (by simp only [lowL,AV.low,lowI];rfl) rfl (fun x hx=>by rw [List.mem_singleton] at hx;subst hx;exact lowI _) ?_;conv=>whnf
 repeat' first|((with_reducible apply XBr.ff);conv=>whnf)|(refine zh.a ?_;conv=>whnf)|fail
 exact w7.mk' [0] rfl (by decide) ⟨congrArg some (zcG _ _ _ _).symm,trivial⟩ (by show AV.gr 0 _ = AV.gr 0 _;rw [zK,Nat.zero_add])
end GA
end
