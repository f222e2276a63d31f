/- Part 6 of a proof: T3, T4, T5, T6, T7, T8, T9, T10, B7, D1, D2, D3, D4, D5, D8, T11. -/
import Derived.Test.YtdeocemmlagnhaaGreatP5
set_option linter.unusedVariables false
set_option linter.unusedSimpArgs false
set_option maxRecDepth 8000
section
namespace GA
open Go Go.RowKit Go.Proofs
theorem loN_b {p o : Nat} (h1 : p <= 100000) (h2 : o <= 100000) : (loN p o).1 <= 100000 /\ (loN p o).2 <= 100000:=⟨Nat.le_trans (Nat.div_le_self _ _) h1,Nat.le_trans (Nat.div_le_self _ _) h2⟩
theorem loN_abv {p o r q : Nat} (ho : 0 < o) (hq : 0 < q) : ((loN r q).1 * (loN p o).2 < (loN p o).1 * (loN r q).2) ↔ r * o < p * q:=by
 have g1 : 0 < Nat.gcd p o:=Nat.gcd_pos_of_pos_right _ ho
 have g2 : 0 < Nat.gcd r q:=Nat.gcd_pos_of_pos_right _ hq
 have e1 : Nat.gcd p o * (loN p o).1 = p:=Nat.mul_div_cancel' (Nat.gcd_dvd_left p o)
 have e2 : Nat.gcd p o * (loN p o).2 = o:=Nat.mul_div_cancel' (Nat.gcd_dvd_right p o)
 have e3 : Nat.gcd r q * (loN r q).1 = r:=Nat.mul_div_cancel' (Nat.gcd_dvd_left r q)
 have e4 : Nat.gcd r q * (loN r q).2 = q:=Nat.mul_div_cancel' (Nat.gcd_dvd_right r q)
 generalize (loN p o).1 = p' at e1 ⊢
 generalize (loN p o).2 = o' at e2 ⊢
 generalize (loN r q).1 = r' at e3 ⊢
 generalize (loN r q).2 = q' at e4 ⊢
 generalize Nat.gcd p o = g at g1 e1 e2
 generalize Nat.gcd r q = k at g2 e3 e4
 subst e1 e2 e3 e4
 have f1 : k * r' * (g * o') = (g * k) * (r' * o'):=by ac_rfl
 have f2 : g * p' * (k * q') = (g * k) * (p' * q'):=by ac_rfl
 rw [f1,f2]
 exact (Nat.mul_lt_mul_left (Nat.mul_pos g1 g2)).symm
theorem fA (m : Int) (sl sh ml mh : Nat) (h0 : 0 < sh) (h1 : ml <= 1000) (h2 : sh <= 1000) : Comp Tryz.prog 332 [.agg [.int .i64 m,natA sl,natA sh,natA ml,natA mh]] (.agg [natA (loN ml sh).1,natA (loN ml sh).2]):=by
 have hc:=qT ml sh h0 (by omega) (by omega)
 refine Comp.body (T:=tab) (res:=[.cell 2 67]) za [] Tryz.func332 rfl (by kernel_rfl) Tryz.ntmps332 rfl (by simp only [List.length_cons,List.length_nil];decide) (by rfl) ?_;conv=>whnf
 repeat' ((refine zf.ret hc ?_);conv=>whnf)
 exact ⟨Froz.low rfl⟩
theorem boMost_c (m : Int) (sl sh ml mh : Nat) (h0 : 0 < sl) (h1 : mh <= 1000) (h2 : sl <= 1000) : Comp Tryz.prog 335 [.agg [.int .i64 m,natA sl,natA sh,natA ml,natA mh]] (.agg [natA (loN mh sl).1,natA (loN mh sl).2]):=by
 have hc:=qT mh sl h0 (by omega) (by omega)
 refine Comp.body (T:=tab) (res:=[.cell 2 67]) za [] Tryz.func335 rfl (by kernel_rfl) Tryz.ntmps335 rfl (by simp only [List.length_cons,List.length_nil];decide) (by rfl) ?_;conv=>whnf
 repeat' ((refine zf.ret hc ?_);conv=>whnf)
 exact ⟨Froz.low rfl⟩
def dsF (hh : Hu) (F : Nat -> Bool) : List AV:=huC hh ++ (vecF 196 F).map .bool
def dsC (hh : Hu) : List AV:=dsF hh (clM hh)
theorem lowL_app2 {n : Nat} {a b : List AV} (h1 : lowL n a = true) (h2 : lowL n b = true) : lowL n (a ++ b) = true:=by
 rw [zo] at *
 intro x hx
 rcases List.mem_append.1 hx with hx | hx
 ·exact h1 x hx
 ·exact h2 x hx
theorem wQ {n : Nat} (hh : Hu) (F : Nat -> Bool) : lowL n (dsF hh F) = true:=lowL_app2 (huCL hh) (jY fun _=>rfl)
theorem dsCL {n : Nat} (hh : Hu) : lowL n (dsC hh) = true:=wQ hh _
theorem dsL {n : Nat} (hh : Hu) : (AV.pim (dsC hh)).low n = true:=wQ hh _
theorem dsF_one (hh : Hu) (F : Nat -> Bool) : ∀ x ∈ dsF hh F,x.one = true:=fun x hx=>by
 unfold dsF at hx
 rcases List.mem_append.1 hx with hx | hx
 ·exact huOne hh x hx
 ·obtain ⟨y,-,rfl⟩:=List.mem_map.1 hx;rfl
theorem dsF_set (hh : Hu) (F : Nat -> Bool) {j : Nat} {v : Bool} : (dsF hh F).set (3 + j) (.bool v) = dsF hh (updV F j v):=by
 unfold dsF
 rw [List.set_append_right _ _ (by show 3 <= 3 + j;omega),show 3 + j - (huC hh).length = j by show 3 + j - 3 = j;omega,<- List.map_set,wJ]
theorem dsF_len (hh : Hu) (F : Nat -> Bool) : (dsF hh F).length = 199:=by unfold dsF;rw [List.length_append,List.length_map,kF];rfl
theorem w6 {v : AV} : ∀ {c : List AV} {o : Nat} {k : List AV -> Prop},o < c.length -> k (c.set o v) -> xspl c o [v] k
 | [],o,k,hh,_=>by simp at hh
 | x :: c,0,k,hh,hk=>by
   show xspl c 0 [] fun l=>k (v :: l)
   cases c <;> exact hk
 | x :: c,o + 1,k,hh,hk=>w6 (c:=c) (o:=o) (k:=fun l=>k (x :: l)) (by simpa using hh) hk
theorem xspl_ds {hh : Hu} {F : Nat -> Bool} {o : Nat} {v : Bool} {k : List AV -> Prop} (j : Nat) (ho : o = 3 + j) (hj : j < 196) (hk : k (dsF hh (updV F j v))) : xspl (dsF hh F) o [.bool v] k:=by
 subst ho
 refine w6 (by rw [dsF_len];omega) ?_
 rw [dsF_set];exact hk
theorem ds0 (hh : Hu) : dsF hh (fun _=>false) = huC hh ++ List.replicate 196 (.bool false):=by unfold dsF;rw [zR,List.map_replicate]
def clU (hh : Hu) (a b j : Nat) : Bool:=hcI hh (j / 14) (j % 14) && (decide (j / 14 < a) || decide (j / 14 = a) && decide (j % 14 < b))
theorem clU_0 (hh : Hu) : clU hh 0 0 = fun _=>false:=by
 funext j
 unfold clU
 rw [decide_eq_false (show ¬ j / 14 < 0 by omega),decide_eq_false (show ¬ j % 14 < 0 by omega)]
 simp
theorem clU_row (hh : Hu) (hw : hh.ws.length <= 14) (a : Nat) : clU hh a hh.ws.length = clU hh (a + 1) 0:=by
 funext j
 unfold clU
 cases e : hcI hh (j / 14) (j % 14) with
 | false=>rfl
 | true =>
   obtain ⟨h1,h2,-⟩:=yV e
   rw [Bool.true_and,Bool.true_and,decide_eq_true h2,decide_eq_false (show ¬ j % 14 < 0 by omega),Bool.and_true,Bool.and_false,Bool.or_false,Bool.eq_iff_iff]
   simp only [Bool.or_eq_true,decide_eq_true_eq];omega
theorem za1 (hh : Hu) {a b : Nat} (hb : b < 14) : clU hh a (b + 1) = updV (clU hh a b) (14 * a + b) (hcI hh a b):=by
 funext j
 unfold updV
 by_cases e : j = 14 * a + b
 ·rw [if_pos e]
  unfold clU
  rw [e,show (14 * a + b) / 14 = a by omega,show (14 * a + b) % 14 = b by omega,decide_eq_true (show b < b + 1 by omega)];simp
 ·rw [if_neg e]
  unfold clU
  congr 1
  rw [Bool.eq_iff_iff]
  simp only [Bool.or_eq_true,Bool.and_eq_true,decide_eq_true_eq];omega
theorem clU_end (hh : Hu) : clU hh hh.ws.length 0 = clM hh:=by
 funext j
 unfold clU clM
 cases e : hcI hh (j / 14) (j % 14) with
 | false=>rfl
 | true =>
   obtain ⟨h1,h2,-⟩:=yV e
   rw [decide_eq_true h1];simp
theorem wg_nat {hh : Hu} (ok : HuOk hh) {a : Nat} (ha : a < hh.ws.length) : ∃ sl sh ml mh : Nat,wsG hh a = ⟨(wsG hh a).m,sl,sh,ml,mh⟩ /\ (1 <= sl /\ sl <= 1000) /\ (1 <= sh /\ sh <= 1000) /\ ml <= 1000 /\ mh <= 1000:=by
 have hm : wsG hh a ∈ hh.ws:=zn (d:=default) ha
 have h1:=ok.s _ hm
 have h2:=ok.t _ hm
 generalize wsG hh a = w at h1 h2
 obtain ⟨m,sl,sh,ml,mh⟩:=w
 dsimp only at h1 h2 ⊢
 obtain ⟨sl,rfl⟩ : ∃ n : Nat,sl = n:=⟨sl.toNat,by omega⟩
 obtain ⟨sh,rfl⟩ : ∃ n : Nat,sh = n:=⟨sh.toNat,by omega⟩
 obtain ⟨ml,rfl⟩ : ∃ n : Nat,ml = n:=⟨ml.toNat,by omega⟩
 obtain ⟨mh,rfl⟩ : ∃ n : Nat,mh = n:=⟨mh.toNat,by omega⟩
 exact ⟨sl,sh,ml,mh,rfl,by omega,by omega,by omega,by omega⟩
theorem pair_c {hh : Hu} (ok : HuOk hh) {a b : Nat} (ha : a < hh.ws.length) (hb : b < hh.ws.length) : ∃ p q : AV,Comp Tryz.prog 332 [wgA (wsG hh a)] p /\ Comp Tryz.prog 335 [wgA (wsG hh b)] q /\ Comp Tryz.prog 334 [p,q] (.bool (abvQ (wsG hh a) (wsG hh b))):=by
 obtain ⟨sl,sh,ml,mh,e,h1,h2,h3,h4⟩:=wg_nat ok ha
 obtain ⟨sl',sh',ml',mh',e',h1',h2',h3',h4'⟩:=wg_nat ok hb
 have b1:=loN_b (p:=ml) (o:=sh) (by omega) (by omega)
 have b2:=loN_b (p:=mh') (o:=sl') (by omega) (by omega)
 have hab:=boAbove_c (loN ml sh).1 (loN ml sh).2 (loN mh' sl').1 (loN mh' sl').2 b1.1 b1.2 b2.1 b2.2
 have hq : abvQ (wsG hh a) (wsG hh b) = decide ((loN mh' sl').1 * (loN ml sh).2 < (loN ml sh).1 * (loN mh' sl').2):=by
  rw [e,e']
  unfold abvQ
  dsimp only
  rw [decide_eq_decide,loN_abv (by omega) (by omega)]
  rw [<- Int.natCast_mul,<- Int.natCast_mul];omega
 rw [hq]
 refine ⟨_,_,?_,?_,hab⟩
 ·rw [e];exact fA _ sl sh ml mh (by omega) h3 (by omega)
 ·rw [e'];exact boMost_c _ sl' sh' ml' mh' (by omega) h4' (by omega)
set_option maxHeartbeats 1000000 in
theorem yT (hh : Hu) (ok : HuOk hh) : Comp Tryz.prog 222 [huA hh] (.tup [.pim (dsC hh),.int .i64 0]):=by
 have hc:=vA hh ok
 have w1:=ok.w1
 have e1 : ((hh.ws.map wgA).length : Int) = hh.ws.length:=by rw [List.length_map]
 refine Comp.body (T:=tab) (res:=[.tmp 2,.tmp 3]) za [17] Tryz.func222 rfl (by kernel_rfl) Tryz.ntmps222 rfl (by simp only [List.length_cons,List.length_nil];decide) (by simp only [lowL,huL];rfl) ?_;conv=>whnf
 repeat' first|((with_reducible first|refine XBr.y2 fun h=>?_|refine XBr.n2 fun h=>?_|refine XBr.bne (fun h=>?_) fun h=>?_) <;> conv=>whnf)|((refine zf.ret hc ?_);conv=>whnf)|fail
 refine Walk.loopGK za [] [(1,_),(2,_),(3,_),(5,_),(19,_),(20,_)] ⟨rfl,rfl,rfl,rfl,rfl,rfl,trivial⟩ (fun a : Nat=>a <= hh.ws.length) (fun a=>[(21,natA a)]) (fun a=>[.cells (dsF hh (clU hh a 0))]) (fun a=>hh.ws.length - a) 0 (Nat.zero_le _) (by rw [clU_0,ds0];rfl) ⟨rfl,trivial⟩ ?_ (fun _ _=>(show (1 : Nat) <= 1 from Nat.le_refl 1)) ?_
 ·intro a _
  refine ⟨fun z hz=>?_,fun z hz=>?_⟩
  ·rw [List.mem_singleton] at hz;subst hz;exact wQ _ _
  ·simp only [List.cons_append,List.nil_append,List.mem_cons,List.not_mem_nil,or_false] at hz
   rcases hz with rfl | rfl | rfl | rfl | rfl | rfl | rfl <;> first | rfl|exact jg _|exact huCL hh
 intro a ha
 conv=>whnf
 by_cases hlt : a < hh.ws.length
 ·skip
  repeat' first|((with_reducible first|refine XBr.y fun h=>?_|refine XBr.n fun h=>?_|refine XBr.dec (fun h=>?_) fun h=>?_) <;> conv=>whnf)|(refine XIx.a ?_;conv=>whnf)|fail
  refine Walk.loopGK za [] [(1,_),(2,_),(3,_),(5,_),(6,_),(7,_),(19,_),(20,_),(21,_),(27,_),(28,_)] ⟨rfl,rfl,rfl,rfl,rfl,rfl,rfl,rfl,rfl,rfl,rfl,trivial⟩ (fun b : Nat=>b <= hh.ws.length) (fun b=>[(29,natA b)]) (fun b=>[.cells (dsF hh (clU hh a b)),.cells (wgC (wsG hh a))]) (fun b=>hh.ws.length - b) 0 (Nat.zero_le _) rfl ⟨rfl,trivial⟩ ?_ (fun _ _=>(show (2 : Nat) <= 2 from Nat.le_refl 2)) ?_
  ·intro b _
   refine ⟨fun z hz=>?_,fun z hz=>?_⟩
   ·simp only [List.mem_cons,List.not_mem_nil,or_false] at hz
    rcases hz with rfl | rfl <;> first|exact wQ _ _ | rfl
   ·simp only [List.cons_append,List.nil_append,List.mem_cons,List.not_mem_nil,or_false] at hz
    rcases hz with rfl | rfl | rfl | rfl | rfl | rfl | rfl | rfl | rfl | rfl | rfl | rfl <;> first | rfl|exact jg _|exact huCL hh
  intro b hb
  conv=>whnf
  by_cases hltb : b < hh.ws.length
  ·obtain ⟨p,q,hp1,hp2,hp3⟩:=pair_c ok hlt hltb
   have hu:=boUnder_c hh (wsG hh a).m (wsG hh b).m
   have hI : hcI hh a b = (undB hh (wsG hh a).m (wsG hh b).m && abvQ (wsG hh a) (wsG hh b)):=by unfold hcI hcB;rw [decide_eq_true hlt,decide_eq_true hltb];rfl
   cases hq : undB hh (wsG hh a).m (wsG hh b).m with
   | true =>
     rw [hq] at hu hI
     rw [Bool.true_and] at hI
     repeat' first|((with_reducible first|apply XBr.tt|refine XBr.y fun h=>?_|refine XBr.n fun h=>?_|refine XBr.dec (fun h=>?_) fun h=>?_|refine XInt.a ?_|apply Chk.go|apply ChkA.go|apply ChkF.go|apply ChkB.go|apply kC.mk) <;> conv=>whnf)|(refine XIx.a ?_;conv=>whnf)|(with_reducible first|apply XAnd.mk|exact trivial)|(exact zm.mk rfl rfl)|(((with_reducible refine XArr.ptr ?_ ?_ ?_);omega;omega);conv=>whnf)|(apply Walk.drawN (id:=11) za zi [17] [20] (hsC [_,_]) [_,_,_,_,_,_,_,_,_,_,_,_,_,_,_,_,_,_,_,_,_] (by kernel_rfl) rfl)|((first|refine zf.ret hu ?_|refine zf.ret hp1 ?_|refine zf.ret hp2 ?_|refine zf.ret hp3 ?_|refine xspl_ds (14 * a + b) (by omega) (by omega) ?_);conv=>whnf)|fail
     refine zq.go (b + 1) [.cells (wgC (wsG hh b))] (by omega) (by omega) ?_ ⟨rfl,rfl,rfl,rfl,rfl,rfl,rfl,rfl,rfl,rfl,rfl,rfl,trivial⟩
     rw [za1 hh (by omega),hI];rfl
   | false =>
     rw [hq] at hu hI
     rw [Bool.false_and] at hI
     repeat' first|((with_reducible first|apply XBr.ff|refine XBr.y fun h=>?_|refine XBr.n fun h=>?_|refine XBr.dec (fun h=>?_) fun h=>?_|refine XInt.a ?_|apply Chk.go|apply ChkA.go|apply ChkF.go|apply ChkB.go|apply kC.mk) <;> conv=>whnf)|(refine XIx.a ?_;conv=>whnf)|(with_reducible first|apply XAnd.mk|exact trivial)|(exact zm.mk rfl rfl)|(((with_reducible refine XArr.ptr ?_ ?_ ?_);omega;omega);conv=>whnf)|(apply Walk.drawN (id:=11) za zi [17] [20] (hsC [_,_]) [_,_,_,_,_,_,_,_,_,_,_,_,_,_,_,_,_,_,_,_,_] (by kernel_rfl) rfl)|((first|refine zf.ret hu ?_|refine xspl_ds (14 * a + b) (by omega) (by omega) ?_);conv=>whnf)|fail
     refine zq.go (b + 1) [.cells (wgC (wsG hh b))] (by omega) (by omega) ?_ ⟨rfl,rfl,rfl,rfl,rfl,rfl,rfl,rfl,rfl,rfl,rfl,rfl,trivial⟩
     rw [za1 hh (by omega),hI];rfl
  obtain rfl : b = hh.ws.length:=by omega
  repeat' ((with_reducible first|refine XBr.y fun h=>?_|refine XBr.n fun h=>?_|refine XBr.dec (fun h=>?_) fun h=>?_|refine XInt.a ?_) <;> conv=>whnf)
  refine zq.go (a + 1) [.cells (wgC (wsG hh a))] (by omega) (by omega) ?_ ⟨rfl,rfl,rfl,rfl,rfl,rfl,rfl,trivial⟩
  rw [clU_row hh w1];rfl
 obtain rfl : a = hh.ws.length:=by omega
 rw [clU_end]
 repeat' ((with_reducible first|refine XBr.y fun h=>?_|refine XBr.n fun h=>?_|refine XBr.dec (fun h=>?_) fun h=>?_) <;> conv=>whnf)
 exact ⟨Froz.tup (.cons (Froz.ptr rfl (dsF_one _ _) (.low (wQ _ _))) (.cons (.low rfl) .nil))⟩
end GA
end
section
namespace GA
open Go Go.RowKit Go.Proofs
theorem vz (hh : Hu) (a : Nat) : Comp Tryz.prog 229 [.pim (dsC hh),natA a] (.fn 348 [.pim [.pim (dsC hh)],.pim [natA a]]):=by
 refine Comp.body (T:=tab) (res:=[.tmp 4]) za [] Tryz.func229 rfl (by kernel_rfl) Tryz.ntmps229 rfl (by simp only [List.length_cons,List.length_nil];decide) (by simp only [lowL,dsCL,AV.low];rfl) ?_;conv=>whnf
 skip
 exact ⟨Froz.fn (.cons (.low (by simp only [AV.low,lowL,dsCL];rfl)) (.cons (.low rfl) .nil))⟩
theorem cl_at (hh : Hu) {a b : Nat} (ha : a < 14) (hb : b < 14) : ((vecF 196 (clM hh)).map AV.bool)[14 * a + b]? = some (.bool (hcI hh a b)):=by
 rw [vec_at (f:=AV.bool) (F:=clM hh) (j:=14 * a + b) (by omega),clM_at hb]
theorem go_at (g : Nat -> Bool) {a : Nat} (ha : a < 14) : ((vecF 14 g).map AV.bool)[a]? = some (.bool (g a)):=vec_at (f:=AV.bool) ha
def goA (g : Nat -> Bool) : AV:=.agg ((vecF 14 g).map .bool)
theorem goL {n : Nat} (g : Nat -> Bool) : lowL n ((vecF 14 g).map AV.bool) = true:=jY fun _=>rfl
def noC (hh : Hu) (g : Nat -> Bool) (a b : Nat) : Prop:=∀ a' b',hcI hh a' b' = true -> a' < a \/ (a' = a /\ b' < b) -> g a' = true \/ g b' = true
theorem noC_end {hh : Hu} {g : Nat -> Bool} (k : noC hh g hh.ws.length 0) : clsG hh g = false:=by
 rw [<- Bool.not_eq_true,k0]
 rintro ⟨a,b,h1,h2,h3⟩
 rcases k a b h1 (.inl (yV h1).1) with h | h
 ·rw [h2] at h;cases h
 ·rw [h3] at h;cases h
theorem noC_row {hh : Hu} {g : Nat -> Bool} {a : Nat} (k : noC hh g a hh.ws.length) : noC hh g (a + 1) 0:=fun a' b' h1 h2=>k a' b' h1 (by have:=(yV h1).2.1;omega)
theorem qz {hh : Hu} {g : Nat -> Bool} {a b : Nat} (k : noC hh g a b) (q : hcI hh a b = true -> g a = true \/ g b = true) : noC hh g a (b + 1):=fun a' b' h1 h2=>by
 by_cases e : a' = a /\ b' = b
 ·obtain ⟨rfl,rfl⟩:=e;exact q h1
 ·exact k a' b' h1 (by omega)
set_option maxHeartbeats 1000000 in
theorem jE (hh : Hu) (ok : HuOk hh) (g : Nat -> Bool) : Comp Tryz.prog 337 [.pim (dsC hh),goA g] (.bool (clsG hh g)):=by
 have w1:=ok.w1
 have e1 : ((hh.ws.map wgA).length : Int) = hh.ws.length:=by rw [List.length_map]
 refine Comp.body' (T:=tab) (res:=[.cell 4 4]) za [] Tryz.func337 rfl (by kernel_rfl) Tryz.ntmps337 rfl (by simp only [List.length_cons,List.length_nil];decide) (by simp only [lowL,AV.low,goA,goL,dsCL];rfl) ?_;conv=>whnf
 skip
 have hlL : ∀ a : Nat,∀ z ∈ ([(0,.pim (dsC hh)),(3,.pim ((vecF 14 g).map .bool)),(4,.ptr 0 0),(12,.int .i64 (hh.ws.map wgA).length),(13,natA a)] : List (Nat × AV)),z.2.low 1 = true:=fun a z hz=>by
  simp only [List.mem_cons,List.not_mem_nil,or_false] at hz
  rcases hz with rfl | rfl | rfl | rfl | rfl <;> first | rfl|exact goL g|exact dsL hh
 refine Walk.loopM za [] (fun a : Nat=>a <= hh.ws.length /\ noC hh g a 0) (fun a=>[(0,.pim (dsC hh)),(3,.pim ((vecF 14 g).map .bool)),(4,.ptr 0 0),(12,.int .i64 (hh.ws.map wgA).length),(13,natA a)]) (fun _=>[.cells [.bool false]]) (fun a=>hh.ws.length - a) 0 1 ⟨Nat.zero_le _,fun a' b' _ h2=>by omega⟩ rfl rfl ⟨rfl,rfl,rfl,rfl,rfl,trivial⟩ ?_
 rintro a ⟨ha,hI⟩
 conv=>whnf
 by_cases hlt : a < hh.ws.length
 ·have hbe:=vz hh a
  repeat' first|((with_reducible first|refine XBr.y fun h=>?_|refine XBr.n fun h=>?_|refine XBr.dec (fun h=>?_) fun h=>?_) <;> conv=>whnf)|((refine zf.ret hbe ?_);conv=>whnf)|fail
  refine Walk.range (own:=[]) za [(3,.pim ((vecF 14 g).map .bool)),(4,.ptr 0 0),(5,.ptr 1 0)] rfl ⟨rfl,rfl,rfl,trivial⟩ ?_
  intro fn
  refine zf.inl (T:=tab) (res:=[]) za [] Tryz.func348 rfl (by kernel_rfl) Tryz.ntmps348 rfl (by simp only [List.length_append,List.length_cons,List.length_nil];decide) ?_;conv=>whnf
  skip
  refine Walk.loopGKL za [] _ [(0,_),(1,_),(2,_),(10,_)] ⟨rfl,rfl,rfl,rfl,trivial⟩ (fun b : Nat=>b <= hh.ws.length /\ noC hh g a b) (fun b=>[(11,natA b)]) (fun lp b=>[.cells [.bool false],.cells [natA a],.raw (.deferred (some [])),lp]) (fun b=>hh.ws.length - b) 0 ⟨Nat.zero_le _,hI⟩ rfl ⟨rfl,trivial⟩ ?_ (fun _ _=>(show (4 : Nat) <= 4 from Nat.le_refl 4)) ?_
  ·intro b _
   refine ⟨fun z hz=>?_,fun z hz=>?_⟩
   ·show z.low 4 = true
    simp only [List.mem_cons,List.not_mem_nil,or_false] at hz
    rcases hz with rfl | rfl | rfl | rfl
    ·rfl
    ·rfl
    ·rfl
    ·show lowL 4 [AV.pim ((vecF 14 g).map .bool),AV.ptr 0 0,AV.ptr 1 0] = true
     simp only [lowL,AV.low,goL];rfl
   ·show z.2.low 4 = true
    simp only [List.cons_append,List.nil_append,List.mem_cons,List.not_mem_nil,or_false] at hz
    rcases hz with rfl | rfl | rfl | rfl | rfl <;> first | rfl|(show lowL 4 _ = true;simp only [lowL,dsL];rfl)
  rintro b ⟨hb,hJ⟩
  conv=>whnf
  by_cases hltb : b < hh.ws.length
  ·have hat:=cl_at hh (a:=a) (b:=b) (by omega) (by omega)
   have hga:=go_at g (a:=a) (by omega)
   have hgb:=go_at g (a:=b) (by omega)
   cases hc : hcI hh a b with
   | false =>
     rw [hc] at hat
     repeat' ((with_reducible first|refine XBr.y fun h=>?_|refine XBr.n fun h=>?_|refine XBr.dec (fun h=>?_) fun h=>?_) <;> conv=>whnf)
     apply Walk.drawX za zi [] [] (hsK _) [.pim (dsC hh),natA a,natA b,_,_,_,_,.bool false,.bool false,_,_,_,_,.bool false] (by kernel_rfl) rfl
     ·skip
      repeat' first|((with_reducible first|apply XBr.ff|apply Chk.go|apply ChkA.go);conv=>whnf)|(with_reducible first|apply XAnd.mk|exact trivial)|(exact zm.mk rfl rfl)|((first|(refine XArr.at _ (by omega) (by omega) (by rw [List.getElem?_drop,show (a : Int).toNat * 14 + (b : Int).toNat * 1 = 14 * a + b by omega];exact hat) ?_)|refine XArr.pim (by omega) (by omega) ?_);conv=>whnf)|fail
     ·skip
      repeat' first|((with_reducible first|apply ChkF.go|apply ChkB.go);conv=>whnf)|(with_reducible first|apply XAnd.mk|exact trivial)|fail
     conv=>whnf
     repeat' ((with_reducible first|apply XBr.ff|refine XInt.a ?_);conv=>whnf)
     exact zq.go (b + 1) [] ⟨by omega,qz hJ fun h=>by rw [hc] at h;cases h⟩ (by omega) rfl ⟨rfl,rfl,rfl,rfl,rfl,trivial⟩
   | true =>
     rw [hc] at hat
     cases h1 : g a with
     | true =>
       rw [h1] at hga
       repeat' ((with_reducible first|refine XBr.y fun h=>?_|refine XBr.n fun h=>?_|refine XBr.dec (fun h=>?_) fun h=>?_) <;> conv=>whnf)
       apply Walk.drawX za zi [] [] (hsK _) [.pim (dsC hh),natA a,natA b,_,_,_,_,.bool true,.bool true,_,_,.bool true,.bool false,.bool false] (by kernel_rfl) rfl
       ·skip
        repeat' first|((with_reducible first|apply XBr.tt|apply XBr.ff|apply Chk.go|apply ChkA.go);conv=>whnf)|(with_reducible first|apply XBr.not|apply XAnd.mk|exact trivial)|(exact zm.mk rfl rfl)|((first|(first|(refine XArr.at _ (by omega) (by omega) (by rw [List.getElem?_drop,show (a : Int).toNat * 14 + (b : Int).toNat * 1 = 14 * a + b by omega];exact hat) ?_)|(refine XArr.at _ (by omega) (by omega) (by rw [Int.toNat_natCast,Nat.mul_one];exact hga) ?_)|refine XArr.pim (by omega) (by omega) ?_)|((refine yK.go (own:=[]) za rfl rfl (by decide) ?_);intro ρ));conv=>whnf)|fail
       ·skip
        repeat' first|((with_reducible first|apply ChkF.go|apply ChkB.go);conv=>whnf)|(with_reducible first|apply XAnd.mk|exact trivial)|fail
       conv=>whnf
       repeat' ((with_reducible first|apply XBr.ff|refine XInt.a ?_);conv=>whnf)
       exact zq.go (b + 1) [] ⟨by omega,qz hJ fun _=>.inl h1⟩ (by omega) rfl ⟨rfl,rfl,rfl,rfl,rfl,trivial⟩
     | false =>
       rw [h1] at hga
       cases h2 : g b with
       | true =>
         rw [h2] at hgb
         repeat' ((with_reducible first|refine XBr.y fun h=>?_|refine XBr.n fun h=>?_|refine XBr.dec (fun h=>?_) fun h=>?_) <;> conv=>whnf)
         apply Walk.drawX za zi [] [] (hsK _) [.pim (dsC hh),natA a,natA b,_,_,_,_,.bool true,.bool true,_,_,.bool true,.bool false,.bool false] (by kernel_rfl) rfl
         ·skip
          repeat' first|((with_reducible first|apply XBr.tt|apply XBr.ff|apply Chk.go|apply ChkA.go);conv=>whnf)|(with_reducible first|apply XBr.not|apply XAnd.mk|exact trivial)|(exact zm.mk rfl rfl)|((first|(first|(refine XArr.at _ (by omega) (by omega) (by rw [List.getElem?_drop,show (a : Int).toNat * 14 + (b : Int).toNat * 1 = 14 * a + b by omega];exact hat) ?_)|(refine XArr.at _ (by omega) (by omega) (by rw [Int.toNat_natCast,Nat.mul_one];exact hga) ?_)|(refine XArr.at _ (by omega) (by omega) (by rw [Int.toNat_natCast,Nat.mul_one];exact hgb) ?_)|refine XArr.pim (by omega) (by omega) ?_)|((refine yK.go (own:=[]) za rfl rfl (by decide) ?_);intro ρ));conv=>whnf)|fail
         ·skip
          repeat' first|((with_reducible first|apply ChkF.go|apply ChkB.go);conv=>whnf)|(with_reducible first|apply XAnd.mk|exact trivial)|fail
         conv=>whnf
         repeat' ((with_reducible first|apply XBr.ff|refine XInt.a ?_);conv=>whnf)
         exact zq.go (b + 1) [] ⟨by omega,qz hJ fun _=>.inr h2⟩ (by omega) rfl ⟨rfl,rfl,rfl,rfl,rfl,trivial⟩
       | false =>
         rw [h2] at hgb
         have hcl : clsG hh g = true:=k0.2 ⟨a,b,hc,h1,h2⟩
         rw [hcl]
         repeat' ((with_reducible first|refine XBr.y fun h=>?_|refine XBr.n fun h=>?_|refine XBr.dec (fun h=>?_) fun h=>?_) <;> conv=>whnf)
         apply Walk.drawX za zi [] [11] (hsC [_,_]) [.pim (dsC hh),natA a,natA b,_,_,_,_,.bool true,.bool true,_,_,.bool false,.bool true,.bool true] (by kernel_rfl) rfl
         ·skip
          repeat' first|((with_reducible first|apply XBr.tt|apply XBr.ff|apply Chk.go|apply ChkA.go);conv=>whnf)|(with_reducible first|apply XBr.not|apply XAnd.mk|exact trivial)|(exact zm.mk rfl rfl)|((first|(first|(refine XArr.at _ (by omega) (by omega) (by rw [List.getElem?_drop,show (a : Int).toNat * 14 + (b : Int).toNat * 1 = 14 * a + b by omega];exact hat) ?_)|(refine XArr.at _ (by omega) (by omega) (by rw [Int.toNat_natCast,Nat.mul_one];exact hga) ?_)|(refine XArr.at _ (by omega) (by omega) (by rw [Int.toNat_natCast,Nat.mul_one];exact hgb) ?_)|refine XArr.pim (by omega) (by omega) ?_)|((refine yK.go (own:=[]) za rfl rfl (by decide) ?_);intro ρ));conv=>whnf)|fail
         ·skip
          repeat' first|((with_reducible first|apply XBr.tt|apply Chk.go|apply ChkF.go|apply ChkB.go);conv=>whnf)|(with_reducible first|apply XAnd.mk|exact trivial)|(exact zm.mk rfl rfl)|((first|(refine XArr.at _ (by omega) (by omega) (by rw [List.getElem?_drop,show (a : Int).toNat * 14 + (b : Int).toNat * 1 = 14 * a + b by omega];exact hat) ?_)|refine XArr.pim (by omega) (by omega) ?_);conv=>whnf)|fail
         conv=>whnf
         repeat' ((with_reducible apply XBr.tt);conv=>whnf)
         exact ⟨.low rfl⟩
  obtain rfl : b = hh.ws.length:=by omega
  repeat' ((with_reducible first|refine XBr.y fun h=>?_|refine XBr.n fun h=>?_|refine XBr.dec (fun h=>?_) fun h=>?_|refine XInt.a ?_) <;> conv=>whnf)
  exact jq.go (a + 1) [.cells [natA a],.raw (.deferred (some [])),.dead] ⟨by omega,noC_row hJ⟩ (by omega) rfl ⟨rfl,rfl,rfl,rfl,rfl,trivial⟩ (Nat.le_refl _) (fun z hz=>by rw [List.mem_singleton] at hz;subst hz;rfl) (hlL _) (by simp) (fun i hi=>by rw [List.mem_singleton] at hi;subst hi;exact ⟨show 1 <= 2 by omega,rfl⟩)
 obtain rfl : a = hh.ws.length:=by omega
 rw [noC_end hI]
 repeat' ((with_reducible first|refine XBr.y fun h=>?_|refine XBr.n fun h=>?_|refine XBr.dec (fun h=>?_) fun h=>?_) <;> conv=>whnf)
 exact ⟨.low rfl⟩
end GA
end
section
namespace GA
open Go Go.RowKit Go.Proofs
theorem len64_0 : Comp Tryz.prog 432 [.int .u64 0] (.int .i64 0):=by
  refine Comp.body (T:=tab) (res:=[.tmp 2]) za [] Tryz.func432 rfl (by kernel_rfl) Tryz.ntmps432 rfl (by simp only [List.length_cons,List.length_nil];decide) (by rfl) ?_;conv=>whnf
  repeat' first|((with_reducible first|refine XBr.y fun h=>?_|refine XBr.n fun h=>?_|refine XBr.dec (fun h=>?_) fun h=>?_|refine XInt.a ?_) <;> conv=>whnf)|((first|(refine XStr.mk ⟨0,by kernel_rfl,by omega,by kernel_rfl,?_⟩;rw [show ((UInt8.toNat 0 : Nat) : Int) = 0 from rfl])|(refine XInt.mk ?_;rw [show IntKind.wrap .u8 0 = 0 from rfl]));conv=>whnf)|fail
  exact XOut.int rfl
theorem len64_1 : Comp Tryz.prog 432 [.int .u64 1] (.int .i64 1):=by
  refine Comp.body (T:=tab) (res:=[.tmp 2]) za [] Tryz.func432 rfl (by kernel_rfl) Tryz.ntmps432 rfl (by simp only [List.length_cons,List.length_nil];decide) (by rfl) ?_;conv=>whnf
  repeat' first|((with_reducible first|refine XBr.y fun h=>?_|refine XBr.n fun h=>?_|refine XBr.dec (fun h=>?_) fun h=>?_|refine XInt.a ?_) <;> conv=>whnf)|((first|(refine XStr.mk ⟨1,by kernel_rfl,by omega,by kernel_rfl,?_⟩;rw [show ((UInt8.toNat 1 : Nat) : Int) = 1 from rfl])|(refine XInt.mk ?_;rw [show IntKind.wrap .u8 1 = 1 from rfl]));conv=>whnf)|fail
  exact XOut.int rfl
theorem len_c (n : Nat) (hn : n <= 1) : Comp Tryz.prog 399 [.int .u64 n] (natA n):=by
 have hc : n = 0 \/ n = 1:=by omega
 rcases hc with rfl | rfl
 ·have h0:=len64_0
  refine Comp.body (T:=tab) (res:=[.tmp 2]) za [] Tryz.func399 rfl (by kernel_rfl) Tryz.ntmps399 rfl (by simp only [List.length_cons,List.length_nil];decide) (by rfl) ?_;conv=>whnf
  repeat' first|((first|(with_reducible apply XBr.ff)|(refine zf.ret h0 ?_));conv=>whnf)|fail
  exact XOut.int rfl
 ·have h0:=len64_1
  refine Comp.body (T:=tab) (res:=[.tmp 2]) za [] Tryz.func399 rfl (by kernel_rfl) Tryz.ntmps399 rfl (by simp only [List.length_cons,List.length_nil];decide) (by rfl) ?_;conv=>whnf
  repeat' first|((first|(with_reducible apply XBr.ff)|(refine zf.ret h0 ?_));conv=>whnf)|fail
  exact XOut.int rfl
theorem XInt.u64s {n : Nat} {k : AV -> Prop} (hn : n <= 1) (hk : k (.int .u64 n)) : XInt .u64 (n : Int) k:=by
 have hc : n = 0 \/ n = 1:=by omega
 rcases hc with rfl | rfl <;> exact ⟨hk⟩
theorem boSort_c (i n : Nat) (hn : n <= 1) (H : List Blk) (K : AV -> List Blk -> Prop) {te : TypeId} {nl : Bool} {els : List AV} (hgr : lget H i = some (.grow te nl els)) (hel : els.length = n) (hk : K (.tup []) H) : zf Tryz.prog 339 [.gr i n,.fn 340 []] H K:=by
 have hl:=len_c n hn
 refine zf.inl (T:=tab) (res:=[]) za [] Tryz.func339 rfl (by kernel_rfl) Tryz.ntmps339 rfl (by simp only [List.length_append,List.length_cons,List.length_nil];decide) ?_;conv=>whnf
 repeat' first|(refine zj.a ?_;conv=>whnf)|((rw [hgr];conv=>whnf))|((first|refine XInt.u64s hn ?_|refine zf.ret hl ?_);conv=>whnf)|fail
 refine zf.inl (T:=tab) (res:=[]) za [] Tryz.func398 rfl (by kernel_rfl) Tryz.ntmps398 rfl (by simp only [List.length_append,List.length_cons,List.length_nil];decide) ?_;conv=>whnf
 skip
 refine Walk.loopK za [] [(0,_),(1,_),(2,_),(3,_),(4,_),(10,_),(11,_)] ⟨rfl,rfl,rfl,rfl,rfl,rfl,rfl,trivial⟩ (fun _ : Unit=>True) (fun _=>[]) (fun _=>H) (fun _=>0) () trivial rfl trivial ?_
 intro _ _
 conv=>whnf
 repeat' ((with_reducible first|refine XBr.y fun h=>?_|refine XBr.n fun h=>?_|refine XBr.dec (fun h=>?_) fun h=>?_|refine XInt.a ?_) <;> conv=>whnf)
 refine zf.inl (T:=tab) (res:=[]) za [] Tryz.func423 rfl (by kernel_rfl) Tryz.ntmps423 rfl (by simp only [List.length_append,List.length_cons,List.length_nil];decide) ?_;conv=>whnf
 repeat' ((with_reducible refine XInt.a ?_);conv=>whnf)
 refine Walk.loopK za [] [(0,_),(1,_),(2,_),(3,_),(8,_)] ⟨rfl,rfl,rfl,rfl,rfl,trivial⟩ (fun _ : Unit=>True) (fun _=>[]) (fun _=>H) (fun _=>0) () trivial rfl trivial ?_
 intro _ _
 conv=>whnf
 repeat' ((with_reducible first|refine XBr.y fun h=>?_|refine XBr.n fun h=>?_|refine XBr.dec (fun h=>?_) fun h=>?_) <;> conv=>whnf)
 exact hk
def fstB (hh : Hu) (i : Nat) : Option Nat:=(List.range hh.ws.length).find? (hcI hh i)
theorem fstB_none {hh : Hu} {i : Nat} (e : fstB hh i = none) : ∀ b,hcI hh i b = false:=fun b=>by
 rw [<- Bool.not_eq_true]
 intro h
 have:=List.find?_eq_none.1 e b (List.mem_range.2 (yV h).2.1)
 exact this h
theorem kk {hh : Hu} {i b : Nat} (e : fstB hh i = some b) : hcI hh i b = true /\ ∀ j,j < b -> hcI hh i j = false:=by
 obtain ⟨h1,-,h3⟩:=List.find?_range_eq_some.1 e
 exact ⟨h1,fun j hj=>by simpa using h3 j hj⟩
theorem fstB_at {hh : Hu} {i b : Nat} (h1 : hcI hh i b = true) (h2 : ∀ j,j < b -> hcI hh i j = false) : fstB hh i = some b:=
 List.find?_range_eq_some.2 ⟨h1,List.mem_range.2 (yV h1).2.1,fun j hj=>by rw [h2 j hj];rfl⟩
def bpL (hh : Hu) (i : Nat) : List (Nat × Nat):=match fstB hh i with | some b=>[(i,b)] | none=>[]
def bpP (p : Nat × Nat) : AV:=.agg [natA p.1,natA p.2]
def bpA (hh : Hu) (i : Nat) : AV:=.sl (bpL hh i).isEmpty ((bpL hh i).map bpP)
theorem bpA_low {n : Nat} (hh : Hu) (i : Nat) : lowL n ((bpL hh i).map bpP) = true:=zT (fun _=>rfl) _
def ovF (hh : Hu) (i a j : Nat) : Int:=if i < a /\ fstB hh i = some j then (i : Int) else -1
def ivB (F : Nat -> Int) : Blk:=.cells ((vecF 14 F).map (.int .i64))
theorem ovF_keep {hh : Hu} {i a : Nat} (h : a ≠ i \/ ∀ b,hcI hh i b = false) : ovF hh i (a + 1) = ovF hh i a:=by
 funext j
 unfold ovF
 rcases h with h | h
 ·have : (i < a + 1 /\ fstB hh i = some j) ↔ (i < a /\ fstB hh i = some j):=by
   constructor
   ·rintro ⟨h1,h2⟩;exact ⟨by omega,h2⟩
   ·rintro ⟨h1,h2⟩;exact ⟨by omega,h2⟩
  simp only [this]
 ·rw [if_neg,if_neg]
  ·rintro ⟨-,e⟩;have:=(kk e).1;rw [h j] at this;cases this
  ·rintro ⟨-,e⟩;have:=(kk e).1;rw [h j] at this;cases this
theorem ovF_put {hh : Hu} {i b : Nat} (h : fstB hh i = some b) : ovF hh i (i + 1) = updV (ovF hh i i) b (i : Int):=by
 funext j
 unfold updV ovF
 by_cases e : j = b
 ·subst e;rw [if_pos ⟨by omega,h⟩,if_pos rfl]
 ·rw [if_neg e,if_neg,if_neg (fun q=>by omega)]
  rintro ⟨-,q⟩;rw [h] at q;exact e (Option.some.inj q).symm
theorem ovF_at {hh : Hu} {i j : Nat} : ovF hh i i j = -1:=by unfold ovF;rw [if_neg (fun h=>by omega)]
theorem vI {F G : Nat -> Int} (h : ∀ j,j < 14 -> F j = G j) : ivB F = ivB G:=congrArg Blk.cells (congrArg (List.map _) (kB h))
theorem ivB_low {n : Nat} (F : Nat -> Int) : (ivB F).low n = true:=jY (f:=AV.int .i64) fun _=>rfl
def met0 : Blk:=.cells (List.replicate 14 (.bool false))
theorem fw {x : AV} : ∀ {n o : Nat} {k : List AV -> Prop},o < n -> k (x :: List.replicate (n - o - 1) x) -> xdrop o (List.replicate n x) k
 | 0,o,k,h,_=>by omega
 | n + 1,0,k,h,hk=>by show k (x :: List.replicate n x);exact hk
 | n + 1,o + 1,k,h,hk=>fw (n:=n) (o:=o) (k:=k) (by omega) (by rw [show n + 1 - (o + 1) - 1 = n - o - 1 by omega] at hk;exact hk)
def outJ (hh : Hu) (i j : Nat) : List (Nat × Nat):=match fstB hh i with | some b=>if b < j then [(i,b)] else [] | none=>[]
theorem outJ_hit {hh : Hu} {i j : Nat} (h : fstB hh i = some j) : outJ hh i j = [] /\ outJ hh i (j + 1) = [(i,j)]:=by
 unfold outJ;rw [h];dsimp only
 exact ⟨by rw [if_neg (by omega)],by rw [if_pos (by omega)]⟩
theorem outJ_miss {hh : Hu} {i j : Nat} (h : fstB hh i ≠ some j) : outJ hh i (j + 1) = outJ hh i j:=by
 unfold outJ
 split
 ·rename_i b e
  have : b ≠ j:=fun q=>h (by rw [e,q])
  by_cases hb : b < j
  ·rw [if_pos hb,if_pos (by omega)]
  ·rw [if_neg hb,if_neg (by omega)]
 ·rfl
theorem outJ_end {hh : Hu} {i : Nat} (hw : hh.ws.length <= 14) : outJ hh i 14 = bpL hh i:=by
 unfold outJ bpL
 split
 ·rename_i b e
  have:=(yV (kk e).1).2.1
  rw [if_pos (by omega)]
 ·rfl
theorem outJ_len (hh : Hu) (i j : Nat) : (outJ hh i j).length <= 1:=by
 unfold outJ
 split
 ·split <;> simp
 ·simp
set_option maxHeartbeats 2000000 in
theorem kX (hh : Hu) (ok : HuOk hh) (i : Nat) (o : kV hh i) : Comp Tryz.prog 225 [.pim (dsC hh)] (bpA hh i):=by
 have w1:=ok.w1
 have e1 : ((hh.ws.map wgA).length : Int) = hh.ws.length:=by rw [List.length_map]
 refine Comp.body (T:=tab) (res:=[.tmp 2]) za [] Tryz.func225 rfl (by kernel_rfl) Tryz.ntmps225 rfl (by simp only [List.length_cons,List.length_nil];decide) (by simp only [lowL,AV.low,dsCL];rfl) ?_;conv=>whnf
 skip
 refine Walk.loopK za [] [(1,_),(2,_),(3,_)] ⟨rfl,rfl,rfl,trivial⟩ (fun b : Nat=>b <= 14) (fun b=>[(11,natA b)]) (fun b=>[ivB fun j=>if j < b then -1 else 0]) (fun b=>14 - b) 0 (Nat.zero_le _) ?_ ⟨rfl,trivial⟩ ?_
 ·rw [vI (G:=fun _=>0) fun j _=>if_neg (by omega)]
  unfold ivB;rw [zR];rfl
 intro b hb
 conv=>whnf
 by_cases hlt : b < 14
 ·skip
  repeat' first|((with_reducible first|refine XBr.y fun h=>?_|refine XBr.n fun h=>?_|refine XBr.dec (fun h=>?_) fun h=>?_|refine XInt.a ?_) <;> conv=>whnf)|((first|((with_reducible refine XArr.ptr ?_ ?_ ?_);omega;omega)|(refine q9 (f:=AV.int .i64) (-1) b (by omega) (by omega) ?_));conv=>whnf)|fail
  refine zu.go (b + 1) (by omega) (by omega) ?_ ⟨rfl,rfl,rfl,rfl,trivial⟩
  refine congrArg (fun z=>[z]) (vI fun j _=>?_)
  unfold updV
  dsimp only
  by_cases e : j = b
  ·rw [if_pos e,if_pos (by omega)]
  ·rw [if_neg e]
   by_cases h2 : j < b
   ·rw [if_pos h2,if_pos (by omega)]
   ·rw [if_neg h2,if_neg (by omega)]
 obtain rfl : b = 14:=by omega
 repeat' ((with_reducible first|refine XBr.y fun h=>?_|refine XBr.n fun h=>?_|refine XBr.dec (fun h=>?_) fun h=>?_) <;> conv=>whnf)
 refine Walk.loopGK za [] [(1,_),(2,_),(3,_),(22,_)] ⟨rfl,rfl,rfl,rfl,trivial⟩ (fun a : Nat=>a <= hh.ws.length) (fun a=>[(23,natA a)]) (fun a=>[ivB (ovF hh i a)]) (fun a=>hh.ws.length - a) 0 (Nat.zero_le _) ?_ ⟨rfl,trivial⟩ ?_ (fun _ _=>(show (1 : Nat) <= 1 from Nat.le_refl 1)) ?_
 ·refine congrArg (fun z=>[z]) (vI fun j hj=>?_)
  unfold ovF;rw [if_neg (fun h=>by omega),if_pos hj]
 ·intro a _
  refine ⟨fun z hz=>?_,fun z hz=>?_⟩
  ·rw [List.mem_singleton] at hz;subst hz;exact ivB_low _
  ·simp only [List.cons_append,List.nil_append,List.mem_cons,List.not_mem_nil,or_false] at hz
   rcases hz with rfl | rfl | rfl | rfl | rfl <;> first | rfl|(show lowL 1 _ = true;simp only [lowL,dsL];rfl)
 intro a ha
 conv=>whnf
 by_cases hlt : a < hh.ws.length
 ·have hbe:=vz hh a
  repeat' ((with_reducible first|refine XBr.y fun h=>?_|refine XBr.n fun h=>?_|refine XBr.dec (fun h=>?_) fun h=>?_) <;> conv=>whnf)
  refine zf.inl (T:=tab) (res:=[.cell 6 4]) za [] Tryz.func338 rfl (by kernel_rfl) Tryz.ntmps338 rfl (by simp only [List.length_append,List.length_cons,List.length_nil];decide) ?_;conv=>whnf
  repeat' ((refine zf.ret hbe ?_);conv=>whnf)
  refine Walk.range (own:=[]) za [(2,.ptr 1 0),(3,.ptr 0 0),(4,.ptr 2 0),(5,.pim [natA a]),(6,.ptr 3 0)] rfl ⟨rfl,rfl,rfl,rfl,rfl,trivial⟩ ?_
  intro fn
  refine zf.inl (T:=tab) (res:=[]) za [] Tryz.func348 rfl (by kernel_rfl) Tryz.ntmps348 rfl (by simp only [List.length_append,List.length_cons,List.length_nil];decide) ?_;conv=>whnf
  skip
  refine Walk.loopGKL za [] _ [(0,_),(1,_),(2,_),(10,_)] ⟨rfl,rfl,rfl,rfl,trivial⟩ (fun b : Nat=>b <= hh.ws.length /\ ∀ j,j < b -> hcI hh a j = false) (fun b=>[(11,natA b)]) (fun lp b=>[ivB (ovF hh i a),met0,.cells [.fn 338 [.pim [.pim (dsC hh)],.ptr 1 0,.ptr 0 0,.ptr 2 0]],.cells [.bool false],.raw (.deferred (some [])),lp]) (fun b=>hh.ws.length - b) 0 ⟨Nat.zero_le _,fun j hj=>by omega⟩ rfl ⟨rfl,trivial⟩ ?_ (fun _ _=>(show (6 : Nat) <= 6 from Nat.le_refl 6)) ?_
  ·intro b _
   refine ⟨fun z hz=>?_,fun z hz=>?_⟩
   ·show z.low 6 = true
    simp only [List.mem_cons,List.not_mem_nil,or_false] at hz
    rcases hz with rfl | rfl | rfl | rfl | rfl | rfl
    ·exact ivB_low _
    ·rfl
    ·show lowL 6 [AV.fn _ [AV.pim [AV.pim (dsC hh)],AV.ptr 1 0,AV.ptr 0 0,AV.ptr 2 0]] = true
     simp only [lowL,AV.low,dsCL];rfl
    ·rfl
    ·rfl
    ·rfl
   ·show z.2.low 6 = true
    simp only [List.cons_append,List.nil_append,List.mem_cons,List.not_mem_nil,or_false] at hz
    rcases hz with rfl | rfl | rfl | rfl | rfl <;> first | rfl|(show lowL 6 _ = true;simp only [lowL,dsL];rfl)
  rintro b ⟨hb,hJ⟩
  conv=>whnf
  by_cases hltb : b < hh.ws.length
  ·have hat:=cl_at hh (a:=a) (b:=b) (by omega) (by omega)
   cases hc : hcI hh a b with
   | false =>
     rw [hc] at hat
     repeat' ((with_reducible first|refine XBr.y fun h=>?_|refine XBr.n fun h=>?_|refine XBr.dec (fun h=>?_) fun h=>?_) <;> conv=>whnf)
     apply Walk.drawX za zi [] [] (hsK _) [.pim (dsC hh),natA a,natA b,_,_,_,_,.bool false,.bool false,_,_,_,_,.bool false] (by kernel_rfl) rfl
     ·skip
      repeat' first|((with_reducible first|apply XBr.ff|apply Chk.go|apply ChkA.go);conv=>whnf)|(with_reducible first|apply XAnd.mk|exact trivial)|(exact zm.mk rfl rfl)|((first|(refine XArr.at _ (by omega) (by omega) (by rw [List.getElem?_drop,show (a : Int).toNat * 14 + (b : Int).toNat * 1 = 14 * a + b by omega];exact hat) ?_)|refine XArr.pim (by omega) (by omega) ?_);conv=>whnf)|fail
     ·skip
      repeat' first|((with_reducible first|apply ChkF.go|apply ChkB.go);conv=>whnf)|(with_reducible first|apply XAnd.mk|exact trivial)|fail
     conv=>whnf
     repeat' ((with_reducible first|apply XBr.ff|refine XInt.a ?_);conv=>whnf)
     refine zq.go (b + 1) [] ⟨by omega,fun j hj=>?_⟩ (by omega) rfl ⟨rfl,rfl,rfl,rfl,rfl,trivial⟩
     by_cases e : j = b
     ·subst e;exact hc
     ·exact hJ j (by omega)
   | true =>
     obtain ⟨rfl,-⟩:=o a b hc
     have hf:=fstB_at hc hJ
     have hov : ovF hh a a b = -1:=ovF_at
     have hput:=ovF_put hf
     rw [hc] at hat
     generalize ovF hh a a = F at hov hput
     repeat' ((with_reducible first|refine XBr.y fun h=>?_|refine XBr.n fun h=>?_|refine XBr.dec (fun h=>?_) fun h=>?_) <;> conv=>whnf)
     apply Walk.drawX za zi [] [11] (hsC [_,_]) [.pim (dsC hh),natA a,natA b,_,_,_,_,.bool true,.bool true,_,_,.bool false,.bool true,.bool true] (by kernel_rfl) rfl
     ·skip
      repeat' first|((with_reducible first|apply XBr.tt|apply XBr.ff|apply Chk.go|apply ChkA.go|apply ChkF.go|apply ChkB.go|apply kC.mk);conv=>whnf)|(with_reducible first|apply XAnd.mk|exact trivial)|(exact zm.mk rfl rfl)|((first|((with_reducible refine XArr.ptr ?_ ?_ ?_);omega;omega)|(first|(refine XArr.at _ (by omega) (by omega) (by rw [List.getElem?_drop,show (a : Int).toNat * 14 + (b : Int).toNat * 1 = 14 * a + b by omega];exact hat) ?_)|refine XArr.pim (by omega) (by omega) ?_)|((refine yK.go (own:=[]) za rfl rfl (by decide) ?_);intro ρ)|(first|refine fw (by omega) ?_|(refine w6 (by rw [List.length_replicate];omega) ?_)|(refine yR (f:=AV.int .i64) b (by omega) (by omega) ?_;rw [hov])|refine q9 (f:=AV.int .i64) _ b (by omega) (by omega) ?_));conv=>whnf)|(apply Walk.drawN (id:=5) za zi [] [] (hsU _) [natA b,_,.int .i64 (-1),.bool true,.bool true,_,_,_,_,_,.bool true] (by kernel_rfl) rfl)|fail
     ·skip
      repeat' first|((with_reducible first|apply XBr.tt|apply Chk.go|apply ChkF.go|apply ChkB.go);conv=>whnf)|(with_reducible first|apply XAnd.mk|exact trivial)|(exact zm.mk rfl rfl)|((first|(refine XArr.at _ (by omega) (by omega) (by rw [List.getElem?_drop,show (a : Int).toNat * 14 + (b : Int).toNat * 1 = 14 * a + b by omega];exact hat) ?_)|refine XArr.pim (by omega) (by omega) ?_);conv=>whnf)|fail
     conv=>whnf
     repeat' ((with_reducible first|apply XBr.tt|refine XInt.a ?_);conv=>whnf)
     exact zq.go (a + 1) [_,_,_,_,_] (by omega) (by omega) (by rw [hput];rfl) ⟨rfl,rfl,rfl,rfl,rfl,trivial⟩
  obtain rfl : b = hh.ws.length:=by omega
  repeat' ((with_reducible first|refine XBr.y fun h=>?_|refine XBr.n fun h=>?_|refine XBr.dec (fun h=>?_) fun h=>?_|refine XInt.a ?_) <;> conv=>whnf)
  have hk : a ≠ i \/ ∀ b,hcI hh i b = false:=by
   by_cases e : a = i
   ·right;intro b
    subst e
    rw [<- Bool.not_eq_true]
    intro hb
    rw [hJ b (yV hb).2.1] at hb;cases hb
   ·exact .inl e
  exact zq.go (a + 1) [_,_,_,_,_] (by omega) (by omega) (by rw [ovF_keep hk];rfl) ⟨rfl,rfl,rfl,rfl,rfl,trivial⟩
 obtain rfl : a = hh.ws.length:=by omega
 repeat' first|((with_reducible first|refine XBr.y fun h=>?_|refine XBr.n fun h=>?_|refine XBr.dec (fun h=>?_) fun h=>?_) <;> conv=>whnf)|((refine wL rfl ?_);conv=>whnf)|fail
 refine Walk.nilgr 8 140 rfl ?_
 refine Walk.loopK za [] [(2,_),(31,_)] ⟨rfl,rfl,trivial⟩ (fun j : Nat=>j <= 14) (fun j=>[(8,.gr 1 (outJ hh i j).length),(32,natA j)]) (fun j=>[ivB (ovF hh i hh.ws.length),.grow 140 (outJ hh i j).isEmpty ((outJ hh i j).map bpP)]) (fun j=>14 - j) 0 (Nat.zero_le _) ?_ ?_ ?_
 ·have h0 : outJ hh i 0 = []:=by
   unfold outJ
   split
   ·rw [if_neg (by omega)]
   ·rfl
  rw [h0];rfl
 ·have h0 : outJ hh i 0 = []:=by
   unfold outJ
   split
   ·rw [if_neg (by omega)]
   ·rfl
  rw [h0];exact ⟨rfl,rfl,trivial⟩
 intro j hj
 have hol:=outJ_len hh i j
 have hml : ((outJ hh i j).map bpP).length = (outJ hh i j).length:=List.length_map _
 conv=>whnf
 by_cases hlt : j < 14
 ·by_cases hf : fstB hh i = some j
  ·obtain ⟨o1,o2⟩:=outJ_hit hf
   have hi:=(yV (kk hf).1).1
   have hov : ovF hh i hh.ws.length j = (i : Int):=by unfold ovF;rw [if_pos ⟨hi,hf⟩]
   repeat' first|((with_reducible first|refine XBr.y fun h=>?_|refine XBr.n fun h=>?_|refine XBr.dec (fun h=>?_) fun h=>?_|refine XBr.y2 fun h=>?_|refine XBr.n2 fun h=>?_|refine XBr.bne (fun h=>?_) fun h=>?_|refine XInt.a ?_) <;> conv=>whnf)|((first|refine zj.a ?_|(refine yR (f:=AV.int .i64) j (by omega) (by omega) ?_;rw [hov]));conv=>whnf)|fail
   refine zu.go (j + 1) (by omega) (by omega) ?_ ⟨rfl,rfl,?_,rfl,trivial⟩
   ·rw [o1,o2];rfl
   ·rw [o1,o2];rfl
  ·have o2:=outJ_miss hf
   have hov : ovF hh i hh.ws.length j = -1:=by unfold ovF;rw [if_neg (fun h=>hf h.2)]
   repeat' first|((with_reducible first|refine XBr.y fun h=>?_|refine XBr.n fun h=>?_|refine XBr.dec (fun h=>?_) fun h=>?_|refine XBr.y2 fun h=>?_|refine XBr.n2 fun h=>?_|refine XBr.bne (fun h=>?_) fun h=>?_|refine XInt.a ?_) <;> conv=>whnf)|((first|refine zj.a ?_|(refine yR (f:=AV.int .i64) j (by omega) (by omega) ?_;rw [hov]));conv=>whnf)|fail
   refine zu.go (j + 1) (by omega) (by omega) ?_ ⟨rfl,rfl,?_,rfl,trivial⟩
   ·rw [o2]
   ·rw [o2];rfl
 obtain rfl : j = 14:=by omega
 have hend:=outJ_end (hh:=hh) (i:=i) w1
 repeat' first|((with_reducible first|refine XBr.y fun h=>?_|refine XBr.n fun h=>?_|refine XBr.dec (fun h=>?_) fun h=>?_) <;> conv=>whnf)|((refine boSort_c 1 _ (by omega) _ _ rfl hml ?_);conv=>whnf)|fail
 have hz:=Froz.grow (P:=Tryz.prog) (H:=[ivB (ovF hh i hh.ws.length),.grow 140 (outJ hh i 14).isEmpty ((outJ hh i 14).map bpP)]) (i:=1) (n:=(outJ hh i 14).length) rfl hml (zT (fun _=>rfl) _)
 rw [hend] at hz ⊢
 exact ⟨hz⟩
end GA
end
section
namespace GA
open Go Go.RowKit Go.Proofs
set_option maxHeartbeats 1000000 in
theorem zbG (hh : Hu) (ok : HuOk hh) (hno : ∀ a b,hcI hh a b = false) : Comp Tryz.prog 53 [huA hh] (.tup [.agg [.int .i64 0,.int .i64 0],.int .i64 6]):=by
 have w1:=ok.w1
 have e1 : ((hh.ws.map wgA).length : Int) = hh.ws.length:=by rw [List.length_map]
 have ho:=yT hh ok
 refine Comp.body' (T:=tab) (res:=[.cell 2 140,.tmp 3]) za [] Tryz.func53 rfl (by kernel_rfl) Tryz.ntmps53 rfl (by simp only [List.length_cons,List.length_nil];decide) (by simp only [lowL,huL];rfl) ?_;conv=>whnf
 skip
 refine Walk.scope za [] ?_
 conv=>whnf
 repeat' first|((with_reducible first|refine XBr.y2 fun h=>?_|refine XBr.n2 fun h=>?_|refine XBr.bne (fun h=>?_) fun h=>?_) <;> conv=>whnf)|((refine zf.ret ho ?_);conv=>whnf)|fail
 refine Walk.label ?_
 conv=>whnf
 skip
 have hlL : ∀ a : Nat,∀ z ∈ ([(2,.ptr 0 0),(3,.int .i64 0),(4,.pim (dsC hh)),(6,.ptr 1 0),(7,.ptr 2 0),(23,.int .i64 (hh.ws.map wgA).length),(24,natA a)] : List (Nat × AV)),z.2.low 3 = true:=fun a z hz=>by
  simp only [List.mem_cons,List.not_mem_nil,or_false] at hz
  rcases hz with rfl | rfl | rfl | rfl | rfl | rfl | rfl <;> first | rfl|exact dsL hh
 refine Walk.loopM za [] (fun a : Nat=>a <= hh.ws.length) (fun a=>[(2,.ptr 0 0),(3,.int .i64 0),(4,.pim (dsC hh)),(6,.ptr 1 0),(7,.ptr 2 0),(23,.int .i64 (hh.ws.map wgA).length),(24,natA a)]) (fun _=>[.cells [.int .i64 0,.int .i64 0],.cells [.int .i64 (-1),.int .i64 (-1)],.cells [.int .i64 (-1),.int .i64 (-1)]]) (fun a=>hh.ws.length - a) 0 3 (Nat.zero_le _) rfl rfl ⟨rfl,rfl,rfl,rfl,rfl,rfl,rfl,trivial⟩ ?_
 intro a ha
 conv=>whnf
 by_cases hlt : a < hh.ws.length
 ·have hbe:=vz hh a
  repeat' first|((with_reducible first|refine XBr.y fun h=>?_|refine XBr.n fun h=>?_|refine XBr.dec (fun h=>?_) fun h=>?_) <;> conv=>whnf)|((refine zf.ret hbe ?_);conv=>whnf)|fail
  refine Walk.range (own:=[]) za [(7,.ptr 2 0),(8,.ptr 3 0)] rfl ⟨rfl,rfl,trivial⟩ ?_
  intro fn
  refine zf.inl (T:=tab) (res:=[]) za [] Tryz.func348 rfl (by kernel_rfl) Tryz.ntmps348 rfl (by simp only [List.length_append,List.length_cons,List.length_nil];decide) ?_;conv=>whnf
  skip
  refine Walk.loopGKL za [] _ [(0,_),(1,_),(2,_),(10,_)] ⟨rfl,rfl,rfl,rfl,trivial⟩ (fun b : Nat=>b <= hh.ws.length) (fun b=>[(11,natA b)]) (fun lp b=>[.cells [.int .i64 0,.int .i64 0],.cells [.int .i64 (-1),.int .i64 (-1)],.cells [.int .i64 (-1),.int .i64 (-1)],.cells [natA a],.raw (.deferred (some [])),lp]) (fun b=>hh.ws.length - b) 0 (Nat.zero_le _) rfl ⟨rfl,trivial⟩ ?_ (fun _ _=>(show (6 : Nat) <= 6 from Nat.le_refl 6)) ?_
  ·intro b _
   refine ⟨fun z hz=>?_,fun z hz=>?_⟩
   ·show z.low 6 = true
    simp only [List.mem_cons,List.not_mem_nil,or_false] at hz
    rcases hz with rfl | rfl | rfl | rfl | rfl | rfl <;> rfl
   ·show z.2.low 6 = true
    simp only [List.cons_append,List.nil_append,List.mem_cons,List.not_mem_nil,or_false] at hz
    rcases hz with rfl | rfl | rfl | rfl | rfl <;> first | rfl|(show lowL 6 _ = true;simp only [lowL,dsL];rfl)
  intro b hb
  conv=>whnf
  by_cases hltb : b < hh.ws.length
  ·have hat:=cl_at hh (a:=a) (b:=b) (by omega) (by omega)
   rw [hno] at hat
   repeat' ((with_reducible first|refine XBr.y fun h=>?_|refine XBr.n fun h=>?_|refine XBr.dec (fun h=>?_) fun h=>?_) <;> conv=>whnf)
   apply Walk.drawX za zi [] [] (hsK _) [.pim (dsC hh),natA a,natA b,_,_,_,_,.bool false,.bool false,_,_,_,_,.bool false] (by kernel_rfl) rfl
   ·skip
    repeat' first|((with_reducible first|apply XBr.ff|apply Chk.go|apply ChkA.go);conv=>whnf)|(with_reducible first|apply XAnd.mk|exact trivial)|(exact zm.mk rfl rfl)|((first|(refine XArr.at _ (by omega) (by omega) (by rw [List.getElem?_drop,show (a : Int).toNat * 14 + (b : Int).toNat * 1 = 14 * a + b by omega];exact hat) ?_)|refine XArr.pim (by omega) (by omega) ?_);conv=>whnf)|fail
   ·skip
    repeat' first|((with_reducible first|apply ChkF.go|apply ChkB.go);conv=>whnf)|(with_reducible first|apply XAnd.mk|exact trivial)|fail
   conv=>whnf
   repeat' ((with_reducible first|apply XBr.ff|refine XInt.a ?_);conv=>whnf)
   exact zq.go (b + 1) [] (by omega) (by omega) rfl ⟨rfl,rfl,rfl,rfl,rfl,trivial⟩
  obtain rfl : b = hh.ws.length:=by omega
  repeat' ((with_reducible first|refine XBr.y fun h=>?_|refine XBr.n fun h=>?_|refine XBr.dec (fun h=>?_) fun h=>?_|refine XInt.a ?_) <;> conv=>whnf)
  exact jq.go (a + 1) [_,.raw (.deferred (some [])),.dead] (by omega) (by omega) rfl ⟨rfl,rfl,rfl,rfl,rfl,rfl,rfl,trivial⟩ (Nat.le_refl _) (fun z hz=>by simp only [List.mem_cons,List.not_mem_nil,or_false] at hz;rcases hz with rfl | rfl | rfl <;> rfl) (hlL _) (by simp) (fun i hi=>by rw [List.mem_singleton] at hi;subst hi;exact ⟨show 3 <= 4 by omega,rfl⟩)
 obtain rfl : a = hh.ws.length:=by omega
 repeat' first|((with_reducible first|refine XBr.y fun h=>?_|refine XBr.n fun h=>?_|refine XBr.dec (fun h=>?_) fun h=>?_) <;> conv=>whnf)|((refine XEqA.mk ⟨[-1,-1],[-1,-1],rfl,rfl,rfl,rfl,?_⟩);conv=>whnf)|((with_reducible refine XBr.mk' (fun h=>?_) fun h=>?_) <;> conv=>whnf)|fail
 ·exact ⟨.low rfl⟩
 ·rename_i h
  exact absurd h (by decide)
def w0 : Nat -> Bool:=fun _=>false
theorem go0 : AV.agg (List.replicate 14 (.bool false)) = goA w0:=by unfold goA w0;rw [zR,List.map_replicate]
set_option maxHeartbeats 1000000 in
theorem vT (hh : Hu) (ok : HuOk hh) (hno : ∀ a b,hcI hh a b = false) : Comp Tryz.prog 49 [huA hh] (.tup [.sl true [],.int .i64 0]):=by
 have w1:=ok.w1
 have ho:=yT hh ok
 have hp:=kX hh ok 0 (fun a b h=>by rw [hno] at h;cases h)
 have hn : bpA hh 0 = .sl true []:=by
  have : fstB hh 0 = none:=List.find?_eq_none.2 fun b _=>by rw [hno];simp
  unfold bpA bpL;rw [this];rfl
 rw [hn] at hp
 have hc:=jE hh ok w0
 have hg : clsG hh w0 = false:=by
  rw [<- Bool.not_eq_true,k0]
  rintro ⟨a,b,h1,-⟩
  rw [hno] at h1;cases h1
 rw [hg,<- go0] at hc
 refine Comp.body (T:=tab) (res:=[.tmp 2,.tmp 3]) za [] Tryz.func49 rfl (by kernel_rfl) Tryz.ntmps49 rfl (by simp only [List.length_cons,List.length_nil];decide) (by simp only [lowL,huL];rfl) ?_;conv=>whnf
 repeat' first|((with_reducible first|refine XBr.y2 fun h=>?_|refine XBr.n2 fun h=>?_|refine XBr.bne (fun h=>?_) fun h=>?_) <;> conv=>whnf)|((refine zf.ret ho ?_);conv=>whnf)|fail
 have e0 : (([] : List AV).length : Int) = 0:=rfl
 refine zf.inl (T:=tab) (res:=[]) za [] Tryz.func223 rfl (by kernel_rfl) Tryz.ntmps223 rfl (by simp only [List.length_append,List.length_cons,List.length_nil];decide) ?_;conv=>whnf
 skip
 apply Walk.drawX za zi [] [5] (hsC [_,[.cells [.sl true []],.cells [.fn 336 [.pim [.pim (dsC hh)],.pim [.fn 224 [.ptr 0 0]],.ptr 1 0]]]]) [_,_,_,_,_,.bool false] (by kernel_rfl) rfl
 ·skip
  repeat' first|((with_reducible first|apply XBr.tt|apply XBr.ff|refine XBr.y1 fun h=>?_|refine XBr.n1 fun h=>?_|refine XBr.beq (fun h=>?_) fun h=>?_|apply Chk.go|apply ChkA.go|apply ChkF.go|apply ChkB.go|apply kC.mk) <;> conv=>whnf)|(with_reducible first|apply XAnd.mk|exact trivial)|(exact zm.mk rfl rfl)|((refine zf.ret hp ?_);conv=>whnf)|(refine zf.inl (T:=tab) (res:=[.tmp 11]) za [] Tryz.func336 rfl (by kernel_rfl) Tryz.ntmps336 rfl (by simp only [List.length_append,List.length_cons,List.length_nil];decide) ?_;conv=>whnf)|(apply Walk.drawN (id:=2) za zi [] [8] (hsC [_,_]) [_,_,.bool false,.bool false,_,_,_,.sl true [],.bool false,.bool false,_] (by kernel_rfl) rfl)|((refine zf.ret hc ?_);conv=>whnf)|(refine zf.inl (T:=tab) (res:=[.tmp 2]) za [] Tryz.func57 rfl (by kernel_rfl) Tryz.ntmps57 rfl (by simp only [List.length_append,List.length_cons,List.length_nil];decide) ?_;conv=>whnf)|(refine zf.inl (T:=tab) (res:=[.tmp 3]) za [] Tryz.func224 rfl (by kernel_rfl) Tryz.ntmps224 rfl (by simp only [List.length_append,List.length_cons,List.length_nil];decide) ?_;conv=>whnf)|fail
 ·skip
  repeat' first|((with_reducible first|apply Chk.go|apply ChkF.go|apply ChkB.go);conv=>whnf)|(with_reducible first|apply XAnd.mk|exact trivial)|(exact zm.mk rfl rfl)|fail
 conv=>whnf
 skip
 exact ⟨.low rfl⟩
end GA
end
section
namespace GA
open Go Go.RowKit Go.Proofs
def jw (n : Nat) : Nat -> Bool:=fun j=>j == n
theorem wM {c : List AV} {o : Nat} {k : List AV -> Prop} (n : Nat) (hc : c = List.replicate 14 (.bool false)) (ho : o = n) (hn : n < 14) (hk : k ((vecF 14 (jw n)).map .bool)) : xspl c o [.bool true] k:=by
 subst ho hc
 refine w6 (by rw [List.length_replicate];exact hn) ?_
 have e : (vecF 14 (jw o)).map AV.bool = (List.replicate 14 (AV.bool false)).set o (.bool true):=by
  rw [<- List.map_replicate (f:=AV.bool),<- zR,<- List.map_set,wJ]
  refine congrArg (List.map AV.bool) (kB fun j _=>?_)
  unfold updV jw
  by_cases h : j = o
  ·rw [if_pos h,h];simp
  ·rw [if_neg h];simpa using h
 rw [<- e];exact hk
theorem kill_c (hh : Hu) (ok : HuOk hh) (n : Nat) : Comp Tryz.prog 337 [.pim (dsC hh),.agg ((vecF 14 (jw n)).map .bool)] (.bool (!yv hh n)):=by
 have h:=jE hh ok (jw n)
 have e : (!yv hh n) = clsG hh (jw n):=by unfold yv;rw [Bool.not_not];rfl
 rw [e];exact h
def kilN (hh : Hu) : Option Nat:=(List.range hh.ws.length).find? (yv hh)
theorem kilN_ex {hh : Hu} {i b : Nat} (o : kV hh i) (hf : fstB hh i = some b) : ∃ n,kilN hh = some n /\ n < hh.ws.length /\ yv hh n = true /\ ∀ j,j < n -> yv hh j = false:=by
 cases h : kilN hh with
 | none =>
   have:=List.find?_eq_none.1 h i (List.mem_range.2 (yV (kk hf).1).1)
   rw [zbp o] at this;simp at this
 | some n =>
   obtain ⟨h1,h2,h3⟩:=List.find?_range_eq_some.1 h
   exact ⟨n,rfl,List.mem_range.1 h2,h1,fun j hj=>by simpa using h3 j hj⟩
set_option maxHeartbeats 2000000 in
theorem fV (hh : Hu) (ok : HuOk hh) (i b : Nat) (o : kV hh i) (hf : fstB hh i = some b) : ∃ n0,Comp Tryz.prog 49 [huA hh] (.tup [.sl false [natA n0],.int .i64 0]):=by
 have w1:=ok.w1
 have e1 : ((hh.ws.map wgA).length : Int) = hh.ws.length:=by rw [List.length_map]
 have ho:=yT hh ok
 have hp:=kX hh ok i o
 have hpe : bpA hh i = .sl false [bpP (i,b)]:=by unfold bpA bpL;rw [hf];rfl
 rw [hpe] at hp
 obtain ⟨n0,-,hk0,hk1,hk2⟩:=kilN_ex o hf
 have e0 : (([bpP (i,b)] : List AV).length : Int) = 1:=rfl
 refine ⟨n0,?_⟩
 refine Comp.body (T:=tab) (res:=[.tmp 2,.tmp 3]) za [] Tryz.func49 rfl (by kernel_rfl) Tryz.ntmps49 rfl (by simp only [List.length_cons,List.length_nil];decide) (by simp only [lowL,huL];rfl) ?_;conv=>whnf
 repeat' first|((with_reducible first|refine XBr.y2 fun h=>?_|refine XBr.n2 fun h=>?_|refine XBr.bne (fun h=>?_) fun h=>?_) <;> conv=>whnf)|((refine zf.ret ho ?_);conv=>whnf)|fail
 refine zf.inl (T:=tab) (res:=[]) za [] Tryz.func223 rfl (by kernel_rfl) Tryz.ntmps223 rfl (by simp only [List.length_append,List.length_cons,List.length_nil];decide) ?_;conv=>whnf
 skip
 apply Walk.drawX za zi [] [5] (hsC [_,[.cells [.gr 4 1],.cells [.fn 336 [.pim [.pim (dsC hh)],.pim [.fn 224 [.ptr 0 0]],.ptr 1 0]],.cells ((vecF 14 (jw n0)).map .bool),.dead,.grow 3 false [natA n0]]]) [_,_,_,_,_,.bool false] (by kernel_rfl) rfl
 ·skip
  repeat' first|((with_reducible first|refine XBr.y1 fun h=>?_|refine XBr.n1 fun h=>?_|refine XBr.beq (fun h=>?_) fun h=>?_|apply Chk.go|apply ChkA.go) <;> conv=>whnf)|(with_reducible first|apply XAnd.mk|exact trivial)|(exact zm.mk rfl rfl)|((refine zf.ret hp ?_);conv=>whnf)|(refine zf.inl (T:=tab) (res:=[.tmp 11]) za [] Tryz.func336 rfl (by kernel_rfl) Tryz.ntmps336 rfl (by simp only [List.length_append,List.length_cons,List.length_nil];decide) ?_;conv=>whnf)|fail
  refine Walk.loopGK za [] [(1,_),(3,_),(4,_),(6,_),(7,_)] ⟨rfl,rfl,rfl,rfl,rfl,trivial⟩ (fun n : Nat=>n <= hh.ws.length /\ ∀ j,j < n -> yv hh j = false) (fun n=>[(12,natA n)]) (fun _=>[.cells [.sl true []],.cells [.fn 336 [.pim [.pim (dsC hh)],.pim [.fn 224 [.ptr 0 0]],.ptr 1 0]]]) (fun n=>hh.ws.length - n) 0 ⟨Nat.zero_le _,fun j hj=>by omega⟩ rfl ⟨rfl,trivial⟩ ?_ (fun _ _=>(show (2 : Nat) <= 2 from Nat.le_refl 2)) ?_
  ·intro n _
   refine ⟨fun z hz=>?_,fun z hz=>?_⟩
   ·simp only [List.mem_cons,List.not_mem_nil,or_false] at hz
    rcases hz with rfl | rfl
    ·rfl
    ·show lowL 2 [AV.fn _ [.pim [.pim (dsC hh)],.pim [.fn _ [.ptr 0 0]],.ptr 1 0]] = true
     simp only [lowL,AV.low,dsCL];rfl
   ·simp only [List.cons_append,List.nil_append,List.mem_cons,List.not_mem_nil,or_false] at hz
    rcases hz with rfl | rfl | rfl | rfl | rfl | rfl <;> first | rfl|(show lowL 2 _ = true;simp only [lowL,dsL];rfl)
  rintro n ⟨hn,hI⟩
  conv=>whnf
  have hlt : n < hh.ws.length:=Classical.byContradiction fun h=>by
   have:=hI n0 (by omega)
   rw [hk1] at this;cases this
  have hc:=kill_c hh ok n
  cases hk : yv hh n with
  | false =>
    rw [hk] at hc
    repeat' first|((with_reducible first|apply XBr.tt|apply XBr.ff|refine XBr.y fun h=>?_|refine XBr.n fun h=>?_|refine XBr.dec (fun h=>?_) fun h=>?_|refine XBr.y1 fun h=>?_|refine XBr.n1 fun h=>?_|refine XBr.beq (fun h=>?_) fun h=>?_|refine XInt.a ?_|apply Chk.go|apply ChkA.go|apply ChkF.go|apply ChkB.go|apply kC.mk) <;> conv=>whnf)|(refine zj.a ?_;conv=>whnf)|(with_reducible first|apply XAnd.mk|exact trivial)|(exact zm.mk rfl rfl)|(((with_reducible refine XArr.ptr ?_ ?_ ?_);omega;omega);conv=>whnf)|(refine zf.freeze 3 _ rfl rfl (.same (.gr (.same (.same (.same (.same (.same .nil))))))) ?_)|(refine zf.inl (T:=tab) (res:=[.tmp 11]) za [] Tryz.func336 rfl (by kernel_rfl) Tryz.ntmps336 rfl (by simp only [List.length_append,List.length_cons,List.length_nil];decide) ?_;conv=>whnf)|((first|refine zf.ret hc ?_|refine wM n rfl (by omega) (by omega) ?_|refine wL rfl ?_);conv=>whnf)|(apply Walk.drawN (id:=2) za zi [] [] (hsU _) [_,_,.bool true,.bool true,_,_,_,_,_,.bool true,_] (by kernel_rfl) rfl)|(apply Walk.drawN (id:=8) za zi [] [5,10] (hsC [_,_,[.cells [.sl true []],.cells [.fn 336 [.pim [.pim (dsC hh)],.pim [.fn 224 [.ptr 0 0]],.ptr 1 0]],.cells ((vecF 14 (jw n)).map .bool),.dead]]) [_,_,_,_,_,.gr 3 1,_,_,_,_,.bool true,.bool false] (by kernel_rfl) rfl)|fail
    refine zq.go (n + 1) [_,_] ⟨by omega,fun j hj=>?_⟩ (by omega) rfl ⟨rfl,rfl,rfl,rfl,rfl,rfl,trivial⟩
    by_cases e : j = n
    ·subst e;exact hk
    ·exact hI j (by omega)
  | true =>
    obtain rfl : n = n0:=by
     by_cases h1 : n < n0
     ·rw [hk2 n h1] at hk;cases hk
     ·by_cases h2 : n0 < n
      ·rw [hI n0 h2] at hk1;cases hk1
      ·omega
    rw [hk] at hc
    repeat' first|((with_reducible first|apply XBr.tt|apply XBr.ff|refine XBr.y fun h=>?_|refine XBr.n fun h=>?_|refine XBr.dec (fun h=>?_) fun h=>?_|refine XBr.y1 fun h=>?_|refine XBr.n1 fun h=>?_|refine XBr.beq (fun h=>?_) fun h=>?_|refine XInt.a ?_|apply Chk.go|apply ChkA.go|apply ChkF.go|apply ChkB.go|apply kC.mk) <;> conv=>whnf)|(refine zj.a ?_;conv=>whnf)|(with_reducible first|apply XAnd.mk|exact trivial)|(exact zm.mk rfl rfl)|(((with_reducible refine XArr.ptr ?_ ?_ ?_);omega;omega);conv=>whnf)|(refine zf.freeze 3 _ rfl rfl (.same (.gr (.same (.same (.same (.same (.same .nil))))))) ?_)|(refine zf.inl (T:=tab) (res:=[.tmp 11]) za [] Tryz.func336 rfl (by kernel_rfl) Tryz.ntmps336 rfl (by simp only [List.length_append,List.length_cons,List.length_nil];decide) ?_;conv=>whnf)|((refine zf.ret hc ?_);conv=>whnf)|(refine zf.inl (T:=tab) (res:=[.tmp 2]) za [] Tryz.func57 rfl (by kernel_rfl) Tryz.ntmps57 rfl (by simp only [List.length_append,List.length_cons,List.length_nil];decide) ?_;conv=>whnf)|((with_reducible refine XBr.no rfl ?_);conv=>whnf)|(refine zf.inl (T:=tab) (res:=[.tmp 3]) za [] Tryz.func224 rfl (by kernel_rfl) Tryz.ntmps224 rfl (by simp only [List.length_append,List.length_cons,List.length_nil];decide) ?_;conv=>whnf)|((first|refine wM n rfl (by omega) (by omega) ?_|refine wL rfl ?_);conv=>whnf)|(apply Walk.drawN (id:=2) za zi [] [7,8] (hsC [_,_,_]) [_,_,.bool false,.bool false,_,_,_,.gr 4 1,.bool false,.bool false,_] (by kernel_rfl) rfl)|(apply Walk.drawN (id:=8) za zi [] [5,10] (hsC [_,_,[.cells [.gr 4 1],.cells [.fn 336 [.pim [.pim (dsC hh)],.pim [.fn 224 [.ptr 0 0]],.ptr 1 0]],.cells ((vecF 14 (jw n)).map .bool),.dead,.grow 3 false [natA n]]]) [_,_,_,_,_,.gr 3 1,_,_,_,_,.bool false,.bool true] (by kernel_rfl) rfl)|fail
 ·skip
  repeat' first|((with_reducible first|apply Chk.go|apply ChkF.go|apply ChkB.go);conv=>whnf)|(with_reducible first|apply XAnd.mk|exact trivial)|(exact zm.mk rfl rfl)|fail
 conv=>whnf
 skip
 exact ⟨Froz.tup (.cons (Froz.grow rfl rfl rfl) (.cons (.low rfl) .nil))⟩
end GA
end
section
namespace GA
open Go Go.RowKit Go.Proofs
theorem met_nil (H : List Blk) (K : AV -> List Blk -> Prop) (hk : K (.bool true) H) : zf Tryz.prog 226 [.sl true [],.ptr 0 0] H K:=by
 have e0 : (([] : List AV).length : Int) = 0:=rfl
 refine zf.inl (T:=tab) (res:=[.tmp 3]) za [] Tryz.func226 rfl (by kernel_rfl) Tryz.ntmps226 rfl (by simp only [List.length_append,List.length_cons,List.length_nil];decide) ?_;conv=>whnf
 skip
 refine Walk.loopK za [] [(1,_),(3,_),(6,_),(7,_),(8,_)] ⟨rfl,rfl,rfl,rfl,rfl,trivial⟩ (fun _ : Unit=>True) (fun _=>[]) (fun _=>H) (fun _=>0) () trivial rfl trivial ?_
 intro _ _
 conv=>whnf
 repeat' ((with_reducible first|refine XBr.y fun h=>?_|refine XBr.n fun h=>?_|refine XBr.dec (fun h=>?_) fun h=>?_) <;> conv=>whnf)
 exact hk
theorem met_one (G : Nat -> Bool) (n : Nat) (hn : n < 14) (b1 b2 : Blk) (K : AV -> List Blk -> Prop) (hk : K (.bool true) [.cells ((vecF 14 (updV G n true)).map .bool),b1,b2,.dead,.grow 3 false [natA n]]) :
  zf Tryz.prog 226 [.gr 4 1,.ptr 0 0] [.cells ((vecF 14 G).map .bool),b1,b2,.dead,.grow 3 false [natA n]] K:=by
 refine zf.inl (T:=tab) (res:=[.tmp 3]) za [] Tryz.func226 rfl (by kernel_rfl) Tryz.ntmps226 rfl (by simp only [List.length_append,List.length_cons,List.length_nil];decide) ?_;conv=>whnf
 repeat' (refine zj.a ?_;conv=>whnf)
 refine Walk.loopK za [] [(1,_),(3,_),(6,_),(7,_)] ⟨rfl,rfl,rfl,rfl,trivial⟩ (fun k : Nat=>k <= 1) (fun k=>[(8,natA k)]) (fun k=>[.cells ((vecF 14 (if k = 0 then G else updV G n true)).map .bool),b1,b2,.dead,.grow 3 false [natA n]]) (fun k=>1 - k) 0 (Nat.zero_le _) rfl ⟨rfl,trivial⟩ ?_
 intro k hk1
 conv=>whnf
 have hc : k = 0 \/ k = 1:=by omega
 rcases hc with rfl | rfl
 ·rw [if_pos rfl]
  repeat' first|((with_reducible first|refine XBr.y fun h=>?_|refine XBr.n fun h=>?_|refine XBr.dec (fun h=>?_) fun h=>?_|refine XInt.a ?_) <;> conv=>whnf)|((first|((with_reducible refine XArr.ptr ?_ ?_ ?_);omega;omega)|(first|refine zj.mk ⟨rfl,rfl,by omega,by omega⟩ ?_|refine XGet.mk rfl (by decide) ?_|refine q9 (f:=AV.bool) true n (by omega) (by omega) ?_));conv=>whnf)|fail
  exact zu.go 1 (by omega) (by omega) rfl ⟨rfl,rfl,rfl,rfl,rfl,trivial⟩
 ·rw [if_neg (by omega)]
  repeat' ((with_reducible first|refine XBr.y fun h=>?_|refine XBr.n fun h=>?_|refine XBr.dec (fun h=>?_) fun h=>?_) <;> conv=>whnf)
  exact hk
def trF (G : Nat -> Bool) (j : Nat) : List Nat:=(List.range j).filter fun k=>!G k
theorem zaz (G : Nat -> Bool) (j : Nat) : trF G (j + 1) = trF G j ++ if G j = true then [] else [j]:=by
 unfold trF
 rw [List.range_succ,List.filter_append]
 cases h : G j <;> simp [h]
theorem trF_len (G : Nat -> Bool) (j : Nat) : (trF G j).length <= j:=by
 have:=List.length_filter_le (fun k=>!G k) (List.range j)
 rwa [List.length_range] at this
def k7 (l : List Nat) : List AV:=l.map natA
theorem we {n : Nat} (l : List Nat) : lowL n (k7 l) = true:=zT (fun _=>rfl) l
def trA (G : Nat -> Bool) (n : Nat) : AV:=.sl (trF G n).isEmpty (k7 (trF G n))
def dbt (hh : Hu) (m j : Nat) : Bool:=decide (j < m) && yv hh j
theorem dbt_next {hh : Hu} {m : Nat} : dbt hh (m + 1) = updV (dbt hh m) m (yv hh m):=by
 funext j
 unfold updV dbt
 by_cases e : j = m
 ·subst e;rw [if_pos rfl,decide_eq_true (by omega)];rfl
 ·rw [if_neg e]
  have : decide (j < m + 1) = decide (j < m):=by rw [decide_eq_decide];omega
  rw [this]
theorem updV_same {α : Type} {F : Nat -> α} {j : Nat} {v : α} (h : F j = v) : updV F j v = F:=by
 funext k;unfold updV
 by_cases e : k = j
 ·rw [if_pos e,e,h]
 ·rw [if_neg e]
theorem dbt_at {hh : Hu} {m : Nat} : dbt hh m m = false:=by unfold dbt;rw [decide_eq_false (by omega)];rfl
set_option maxHeartbeats 1000000 in
theorem fM (hh : Hu) (ok : HuOk hh) (hno : ∀ a b,hcI hh a b = false) : Comp Tryz.prog 51 [huA hh] (.tup [trA w0 hh.ws.length,.int .i64 0]):=by
 have w1:=ok.w1
 have ho:=yT hh ok
 have hp:=kX hh ok 0 (fun a b h=>by rw [hno] at h;cases h)
 have hn : bpA hh 0 = .sl true []:=by
  have : fstB hh 0 = none:=List.find?_eq_none.2 fun b _=>by rw [hno];simp
  unfold bpA bpL;rw [this];rfl
 rw [hn] at hp
 have hc:=jE hh ok w0
 have hg : clsG hh w0 = false:=by
  rw [<- Bool.not_eq_true,k0]
  rintro ⟨a,b,h1,-⟩
  rw [hno] at h1;cases h1
 rw [hg,<- go0] at hc
 have e1 : ((hh.ws.map wgA).length : Int) = hh.ws.length:=by rw [List.length_map]
 have e0 : (([] : List AV).length : Int) = 0:=rfl
 have hv0 : List.replicate 14 (AV.bool false) = (vecF 14 w0).map .bool:=by unfold w0;rw [zR,List.map_replicate]
 refine Comp.body (T:=tab) (res:=[.tmp 2,.tmp 3]) za [] Tryz.func51 rfl (by kernel_rfl) Tryz.ntmps51 rfl (by simp only [List.length_cons,List.length_nil];decide) (by simp only [lowL,huL];rfl) ?_;conv=>whnf
 repeat' first|((with_reducible first|refine XBr.y2 fun h=>?_|refine XBr.n2 fun h=>?_|refine XBr.bne (fun h=>?_) fun h=>?_) <;> conv=>whnf)|((refine zf.ret ho ?_);conv=>whnf)|fail
 refine zf.inl (T:=tab) (res:=[]) za [] Tryz.func223 rfl (by kernel_rfl) Tryz.ntmps223 rfl (by simp only [List.length_append,List.length_cons,List.length_nil];decide) ?_;conv=>whnf
 skip
 apply Walk.drawX za zi [] [5] (hsC [_,[.cells (List.replicate 14 (.bool false)),.cells [.fn 336 [.pim [.pim (dsC hh)],.pim [.fn 226 [.ptr 0 0]],.ptr 1 0]]]]) [_,_,_,_,_,.bool true] (by kernel_rfl) rfl
 ·skip
  repeat' first|((with_reducible first|apply XBr.tt|apply XBr.ff|refine XBr.y1 fun h=>?_|refine XBr.n1 fun h=>?_|refine XBr.beq (fun h=>?_) fun h=>?_|apply Chk.go|apply ChkA.go|apply ChkF.go|apply ChkB.go|apply kC.mk) <;> conv=>whnf)|(with_reducible first|apply XAnd.mk|exact trivial)|(exact zm.mk rfl rfl)|((refine zf.ret hp ?_);conv=>whnf)|(refine zf.inl (T:=tab) (res:=[.tmp 11]) za [] Tryz.func336 rfl (by kernel_rfl) Tryz.ntmps336 rfl (by simp only [List.length_append,List.length_cons,List.length_nil];decide) ?_;conv=>whnf)|(apply Walk.drawN (id:=2) za zi [] [] (hsU _) [_,_,.bool false,.bool false,_,_,_,.sl true [],.bool true,.bool true,_] (by kernel_rfl) rfl)|((refine zf.ret hc ?_);conv=>whnf)|(refine zf.inl (T:=tab) (res:=[.tmp 2]) za [] Tryz.func57 rfl (by kernel_rfl) Tryz.ntmps57 rfl (by simp only [List.length_append,List.length_cons,List.length_nil];decide) ?_;conv=>whnf)|((refine met_nil _ _ ?_);conv=>whnf)|fail
 ·skip
  repeat' first|((with_reducible first|apply Chk.go|apply ChkF.go|apply ChkB.go);conv=>whnf)|(with_reducible first|apply XAnd.mk|exact trivial)|(exact zm.mk rfl rfl)|fail
 rw [hv0]
 conv=>whnf
 skip
 refine Walk.nilgr 7 3 rfl ?_
 refine Walk.loopGK za [] [(2,_),(3,_),(6,.ptr 0 0),(23,_)] ⟨rfl,rfl,rfl,rfl,trivial⟩ (fun j : Nat=>j <= hh.ws.length) (fun j=>[(7,.gr 2 (trF (w0) j).length),(24,natA j)]) (fun j=>[.cells ((vecF 14 (w0)).map .bool),.cells [.fn 336 [.pim [.pim (dsC hh)],.pim [.fn 226 [.ptr 0 0]],.ptr 1 0]],.grow 3 (trF (w0) j).isEmpty (k7 (trF (w0) j))]) (fun j=>hh.ws.length - j) 0 (Nat.zero_le _) rfl ⟨rfl,rfl,trivial⟩ ?_ (fun _ _=>(show (3 : Nat) <= 3 from Nat.le_refl 3)) ?_
 ·intro j _
  refine ⟨fun z hz=>?_,fun z hz=>?_⟩
  ·simp only [List.mem_cons,List.not_mem_nil,or_false] at hz
   rcases hz with rfl | rfl | rfl
   ·exact jY fun _=>rfl
   ·show lowL 3 [AV.fn _ [.pim [.pim (dsC hh)],.pim [.fn _ [.ptr 0 0]],.ptr 1 0]] = true
    simp only [lowL,AV.low,dsCL];rfl
   ·exact we _
  ·simp only [List.cons_append,List.nil_append,List.mem_cons,List.not_mem_nil,or_false] at hz
   rcases hz with rfl | rfl | rfl | rfl | rfl | rfl <;> rfl
 intro j hj
 have hnx:=zaz (w0) j
 have hle:=trF_len (w0) j
 have hml : (k7 (trF (w0) j)).length = (trF (w0) j).length:=List.length_map _
 conv=>whnf
 by_cases hlt : j < hh.ws.length
 ·have hgj : ((vecF 14 (w0)).map AV.bool)[j]? = some (.bool ((w0) j)):=go_at _ (by omega)
  cases hv : (w0) j with
  | true =>
    rw [hv] at hnx hgj
    rw [if_pos rfl,List.append_nil] at hnx
    repeat' first|((with_reducible first|apply XBr.tt|refine XBr.y fun h=>?_|refine XBr.n fun h=>?_|refine XBr.dec (fun h=>?_) fun h=>?_|refine XInt.a ?_) <;> conv=>whnf) | with_reducible apply XBr.not|((first|((with_reducible refine XArr.ptr ?_ ?_ ?_);omega;omega)|(refine yR (f:=AV.bool) j (by omega) (by omega) ?_;rw [hv]));conv=>whnf)|fail
    refine zq.go (j + 1) [] (by omega) (by omega) ?_ ⟨rfl,rfl,rfl,rfl,?_,rfl,trivial⟩
    ·rw [hnx];rfl
    ·rw [hnx];rfl
  | false =>
    rw [hv] at hnx hgj
    rw [if_neg (by simp)] at hnx
    repeat' first|((with_reducible first|apply XBr.ff|refine XBr.y fun h=>?_|refine XBr.n fun h=>?_|refine XBr.dec (fun h=>?_) fun h=>?_|refine XInt.a ?_) <;> conv=>whnf)|(refine zj.a ?_;conv=>whnf) | with_reducible apply XBr.not|((first|((with_reducible refine XArr.ptr ?_ ?_ ?_);omega;omega)|(refine yR (f:=AV.bool) j (by omega) (by omega) ?_;rw [hv]));conv=>whnf)|fail
    refine zq.go (j + 1) [] (by omega) (by omega) ?_ ⟨rfl,rfl,rfl,rfl,?_,rfl,trivial⟩
    ·rw [hnx,zO];unfold k7;rw [List.map_append];rfl
    ·rw [hnx,List.length_append];rfl
 obtain rfl : j = hh.ws.length:=by omega
 repeat' ((with_reducible first|refine XBr.y fun h=>?_|refine XBr.n fun h=>?_|refine XBr.dec (fun h=>?_) fun h=>?_) <;> conv=>whnf)
 exact ⟨Froz.tup (.cons (Froz.grow rfl hml (we _)) (.cons (.low rfl) .nil))⟩
set_option maxHeartbeats 2000000 in
theorem gG (hh : Hu) (ok : HuOk hh) (i b : Nat) (o : kV hh i) (hf : fstB hh i = some b) : Comp Tryz.prog 51 [huA hh] (.tup [trA (dbt hh hh.ws.length) hh.ws.length,.int .i64 0]):=by
 have w1:=ok.w1
 have e1 : ((hh.ws.map wgA).length : Int) = hh.ws.length:=by rw [List.length_map]
 have ho:=yT hh ok
 have hp:=kX hh ok i o
 have hpe : bpA hh i = .sl false [bpP (i,b)]:=by unfold bpA bpL;rw [hf];rfl
 rw [hpe] at hp
 have e0 : (([bpP (i,b)] : List AV).length : Int) = 1:=rfl
 have hd0 : (vecF 14 (dbt hh 0)).map AV.bool = List.replicate 14 (AV.bool false):=by
  rw [kB (G:=fun _=>false) fun j _=>by unfold dbt;rw [decide_eq_false (by omega)];rfl,zR,List.map_replicate]
 refine Comp.body (T:=tab) (res:=[.tmp 2,.tmp 3]) za [] Tryz.func51 rfl (by kernel_rfl) Tryz.ntmps51 rfl (by simp only [List.length_cons,List.length_nil];decide) (by simp only [lowL,huL];rfl) ?_;conv=>whnf
 repeat' first|((with_reducible first|refine XBr.y2 fun h=>?_|refine XBr.n2 fun h=>?_|refine XBr.bne (fun h=>?_) fun h=>?_) <;> conv=>whnf)|((refine zf.ret ho ?_);conv=>whnf)|fail
 refine zf.inl (T:=tab) (res:=[]) za [] Tryz.func223 rfl (by kernel_rfl) Tryz.ntmps223 rfl (by simp only [List.length_append,List.length_cons,List.length_nil];decide) ?_;conv=>whnf
 skip
 apply Walk.drawX za zi [] [5] (hsC [_,[.cells ((vecF 14 (dbt hh hh.ws.length)).map .bool),.cells [.fn 336 [.pim [.pim (dsC hh)],.pim [.fn 226 [.ptr 0 0]],.ptr 1 0]]]]) [_,_,_,_,_,.bool true] (by kernel_rfl) rfl
 ·skip
  repeat' first|((with_reducible first|refine XBr.y1 fun h=>?_|refine XBr.n1 fun h=>?_|refine XBr.beq (fun h=>?_) fun h=>?_|apply Chk.go|apply ChkA.go) <;> conv=>whnf)|(with_reducible first|apply XAnd.mk|exact trivial)|(exact zm.mk rfl rfl)|((refine zf.ret hp ?_);conv=>whnf)|(refine zf.inl (T:=tab) (res:=[.tmp 11]) za [] Tryz.func336 rfl (by kernel_rfl) Tryz.ntmps336 rfl (by simp only [List.length_append,List.length_cons,List.length_nil];decide) ?_;conv=>whnf)|fail
  refine Walk.loopGK za [] [(1,_),(3,_),(4,_),(6,_),(7,_)] ⟨rfl,rfl,rfl,rfl,rfl,trivial⟩ (fun n : Nat=>n <= hh.ws.length) (fun n=>[(12,natA n)]) (fun n=>[.cells ((vecF 14 (dbt hh n)).map .bool),.cells [.fn 336 [.pim [.pim (dsC hh)],.pim [.fn 226 [.ptr 0 0]],.ptr 1 0]]]) (fun n=>hh.ws.length - n) 0 (Nat.zero_le _) ?_ ⟨rfl,trivial⟩ ?_ (fun _ _=>(show (2 : Nat) <= 2 from Nat.le_refl 2)) ?_
  ·rw [hd0];rfl
  ·intro n _
   refine ⟨fun z hz=>?_,fun z hz=>?_⟩
   ·simp only [List.mem_cons,List.not_mem_nil,or_false] at hz
    rcases hz with rfl | rfl
    ·exact jY fun _=>rfl
    ·show lowL 2 [AV.fn _ [.pim [.pim (dsC hh)],.pim [.fn _ [.ptr 0 0]],.ptr 1 0]] = true
     simp only [lowL,AV.low,dsCL];rfl
   ·simp only [List.cons_append,List.nil_append,List.mem_cons,List.not_mem_nil,or_false] at hz
    rcases hz with rfl | rfl | rfl | rfl | rfl | rfl <;> first | rfl|(show lowL 2 _ = true;simp only [lowL,dsL];rfl)
  intro n hn
  conv=>whnf
  by_cases hlt : n < hh.ws.length
  ·have hc:=kill_c hh ok n
   have hnx:=dbt_next (hh:=hh) (m:=n)
   cases hk : yv hh n with
   | false =>
     rw [hk] at hc hnx
     rw [updV_same dbt_at] at hnx
     repeat' first|((with_reducible first|apply XBr.tt|apply XBr.ff|refine XBr.y fun h=>?_|refine XBr.n fun h=>?_|refine XBr.dec (fun h=>?_) fun h=>?_|refine XBr.y1 fun h=>?_|refine XBr.n1 fun h=>?_|refine XBr.beq (fun h=>?_) fun h=>?_|refine XInt.a ?_|apply Chk.go|apply ChkA.go|apply ChkF.go|apply ChkB.go|apply kC.mk) <;> conv=>whnf)|(refine zj.a ?_;conv=>whnf)|(with_reducible first|apply XAnd.mk|exact trivial)|(exact zm.mk rfl rfl)|(((with_reducible refine XArr.ptr ?_ ?_ ?_);omega;omega);conv=>whnf)|(refine zf.freeze 3 _ rfl rfl (.same (.gr (.same (.same (.same (.same (.same .nil))))))) ?_)|(refine zf.inl (T:=tab) (res:=[.tmp 11]) za [] Tryz.func336 rfl (by kernel_rfl) Tryz.ntmps336 rfl (by simp only [List.length_append,List.length_cons,List.length_nil];decide) ?_;conv=>whnf)|((first|refine zf.ret hc ?_|refine wM n rfl (by omega) (by omega) ?_|refine wL rfl ?_);conv=>whnf)|(apply Walk.drawN (id:=2) za zi [] [] (hsU _) [_,_,.bool true,.bool true,_,_,_,_,_,.bool true,_] (by kernel_rfl) rfl)|(apply Walk.drawN (id:=8) za zi [] [5,10] (hsC [_,_,[.cells ((vecF 14 (dbt hh n)).map .bool),.cells [.fn 336 [.pim [.pim (dsC hh)],.pim [.fn 226 [.ptr 0 0]],.ptr 1 0]],.cells ((vecF 14 (jw n)).map .bool),.dead]]) [_,_,_,_,_,.gr 3 1,_,_,_,_,.bool true,.bool false] (by kernel_rfl) rfl)|fail
     exact zq.go (n + 1) [_,_] (by omega) (by omega) (by rw [hnx];rfl) ⟨rfl,rfl,rfl,rfl,rfl,rfl,trivial⟩
   | true =>
     rw [hk] at hc hnx
     repeat' first|((with_reducible first|apply XBr.ff|refine XBr.y fun h=>?_|refine XBr.n fun h=>?_|refine XBr.dec (fun h=>?_) fun h=>?_|refine XBr.y1 fun h=>?_|refine XBr.n1 fun h=>?_|refine XBr.beq (fun h=>?_) fun h=>?_|refine XInt.a ?_|apply Chk.go|apply ChkA.go|apply ChkF.go|apply ChkB.go|apply kC.mk) <;> conv=>whnf)|(refine zj.a ?_;conv=>whnf)|(with_reducible first|apply XAnd.mk|exact trivial)|(exact zm.mk rfl rfl)|(((with_reducible refine XArr.ptr ?_ ?_ ?_);omega;omega);conv=>whnf)|(refine zf.freeze 3 _ rfl rfl (.same (.gr (.same (.same (.same (.same (.same .nil))))))) ?_)|(refine zf.inl (T:=tab) (res:=[.tmp 11]) za [] Tryz.func336 rfl (by kernel_rfl) Tryz.ntmps336 rfl (by simp only [List.length_append,List.length_cons,List.length_nil];decide) ?_;conv=>whnf)|((refine zf.ret hc ?_);conv=>whnf)|(refine zf.inl (T:=tab) (res:=[.tmp 2]) za [] Tryz.func57 rfl (by kernel_rfl) Tryz.ntmps57 rfl (by simp only [List.length_append,List.length_cons,List.length_nil];decide) ?_;conv=>whnf)|((first|(with_reducible refine XBr.no rfl ?_)|refine met_one (dbt hh n) n (by omega) _ _ _ ?_|refine wM n rfl (by omega) (by omega) ?_|refine wL rfl ?_);conv=>whnf)|(apply Walk.drawN (id:=2) za zi [] [7,8] (hsC [_,_,[.cells ((vecF 14 (updV (dbt hh n) n true)).map .bool),.cells [.fn 336 [.pim [.pim (dsC hh)],.pim [.fn 226 [.ptr 0 0]],.ptr 1 0]],.cells ((vecF 14 (jw n)).map .bool),.dead,.grow 3 false [natA n]]]) [_,_,.bool false,.bool false,_,_,_,.gr 4 1,.bool true,.bool true,_] (by kernel_rfl) rfl)|(apply Walk.drawN (id:=8) za zi [] [5,10] (hsC [_,_,[.cells ((vecF 14 (updV (dbt hh n) n true)).map .bool),.cells [.fn 336 [.pim [.pim (dsC hh)],.pim [.fn 226 [.ptr 0 0]],.ptr 1 0]],.cells ((vecF 14 (jw n)).map .bool),.dead,.grow 3 false [natA n]]]) [_,_,_,_,_,.gr 3 1,_,_,_,_,.bool true,.bool false] (by kernel_rfl) rfl)|fail
     exact zq.go (n + 1) [_,_,_] (by omega) (by omega) (by rw [hnx];rfl) ⟨rfl,rfl,rfl,rfl,rfl,rfl,trivial⟩
  obtain rfl : n = hh.ws.length:=by omega
  repeat' first|((with_reducible first|refine XBr.y fun h=>?_|refine XBr.n fun h=>?_|refine XBr.dec (fun h=>?_) fun h=>?_|refine XInt.a ?_) <;> conv=>whnf)|(exact zm.mk rfl rfl)|fail
 ·skip
  repeat' first|((with_reducible first|apply Chk.go|apply ChkF.go|apply ChkB.go);conv=>whnf)|(with_reducible first|apply XAnd.mk|exact trivial)|(exact zm.mk rfl rfl)|fail
 conv=>whnf
 skip
 refine Walk.nilgr 7 3 rfl ?_
 refine Walk.loopGK za [] [(2,_),(3,_),(6,.ptr 0 0),(23,_)] ⟨rfl,rfl,rfl,rfl,trivial⟩ (fun j : Nat=>j <= hh.ws.length) (fun j=>[(7,.gr 2 (trF (dbt hh hh.ws.length) j).length),(24,natA j)]) (fun j=>[.cells ((vecF 14 (dbt hh hh.ws.length)).map .bool),.cells [.fn 336 [.pim [.pim (dsC hh)],.pim [.fn 226 [.ptr 0 0]],.ptr 1 0]],.grow 3 (trF (dbt hh hh.ws.length) j).isEmpty (k7 (trF (dbt hh hh.ws.length) j))]) (fun j=>hh.ws.length - j) 0 (Nat.zero_le _) rfl ⟨rfl,rfl,trivial⟩ ?_ (fun _ _=>(show (3 : Nat) <= 3 from Nat.le_refl 3)) ?_
 ·intro j _
  refine ⟨fun z hz=>?_,fun z hz=>?_⟩
  ·simp only [List.mem_cons,List.not_mem_nil,or_false] at hz
   rcases hz with rfl | rfl | rfl
   ·exact jY fun _=>rfl
   ·show lowL 3 [AV.fn _ [.pim [.pim (dsC hh)],.pim [.fn _ [.ptr 0 0]],.ptr 1 0]] = true
    simp only [lowL,AV.low,dsCL];rfl
   ·exact we _
  ·simp only [List.cons_append,List.nil_append,List.mem_cons,List.not_mem_nil,or_false] at hz
   rcases hz with rfl | rfl | rfl | rfl | rfl | rfl <;> rfl
 intro j hj
 have hnx:=zaz (dbt hh hh.ws.length) j
 have hle:=trF_len (dbt hh hh.ws.length) j
 have hml : (k7 (trF (dbt hh hh.ws.length) j)).length = (trF (dbt hh hh.ws.length) j).length:=List.length_map _
 conv=>whnf
 by_cases hlt : j < hh.ws.length
 ·have hgj : ((vecF 14 (dbt hh hh.ws.length)).map AV.bool)[j]? = some (.bool ((dbt hh hh.ws.length) j)):=go_at _ (by omega)
  cases hv : (dbt hh hh.ws.length) j with
  | true =>
    rw [hv] at hnx hgj
    rw [if_pos rfl,List.append_nil] at hnx
    repeat' first|((with_reducible first|apply XBr.tt|refine XBr.y fun h=>?_|refine XBr.n fun h=>?_|refine XBr.dec (fun h=>?_) fun h=>?_|refine XInt.a ?_) <;> conv=>whnf) | with_reducible apply XBr.not|((first|((with_reducible refine XArr.ptr ?_ ?_ ?_);omega;omega)|(refine yR (f:=AV.bool) j (by omega) (by omega) ?_;rw [hv]));conv=>whnf)|fail
    refine zq.go (j + 1) [] (by omega) (by omega) ?_ ⟨rfl,rfl,rfl,rfl,?_,rfl,trivial⟩
    ·rw [hnx];rfl
    ·rw [hnx];rfl
  | false =>
    rw [hv] at hnx hgj
    rw [if_neg (by simp)] at hnx
    repeat' first|((with_reducible first|apply XBr.ff|refine XBr.y fun h=>?_|refine XBr.n fun h=>?_|refine XBr.dec (fun h=>?_) fun h=>?_|refine XInt.a ?_) <;> conv=>whnf)|(refine zj.a ?_;conv=>whnf) | with_reducible apply XBr.not|((first|((with_reducible refine XArr.ptr ?_ ?_ ?_);omega;omega)|(refine yR (f:=AV.bool) j (by omega) (by omega) ?_;rw [hv]));conv=>whnf)|fail
    refine zq.go (j + 1) [] (by omega) (by omega) ?_ ⟨rfl,rfl,rfl,rfl,?_,rfl,trivial⟩
    ·rw [hnx,zO];unfold k7;rw [List.map_append];rfl
    ·rw [hnx,List.length_append];rfl
 obtain rfl : j = hh.ws.length:=by omega
 repeat' ((with_reducible first|refine XBr.y fun h=>?_|refine XBr.n fun h=>?_|refine XBr.dec (fun h=>?_) fun h=>?_) <;> conv=>whnf)
 exact ⟨Froz.tup (.cons (Froz.grow rfl hml (we _)) (.cons (.low rfl) .nil))⟩
end GA
end
section
namespace GA
open Go Go.RowKit Go.Proofs
theorem w5 (hh : Hu) (n : Int) (hw : hh.ws.length <= 14) : Comp Tryz.prog 228 [huA hh,.int .i64 n] (.bool (inZ n 0 ((hh.ws.length : Int) - 1))):=by
 have e1 : ((hh.ws.map wgA).length : Int) = hh.ws.length:=by rw [List.length_map]
 refine Comp.body (T:=tab) (res:=[.tmp 4]) za [] Tryz.func228 rfl (by kernel_rfl) Tryz.ntmps228 rfl (by simp only [List.length_cons,List.length_nil];decide) (by simp only [lowL,huL];rfl) ?_;conv=>whnf
 repeat' first|((first|(with_reducible refine XInt.a ?_)|(refine zf.ret (zaj _ _ _) ?_));conv=>whnf)|fail
 exact XOut.bool (by rw [e1])
def erL (ws : List Wg) (i : Nat) : Nat -> List Wg
 | 0=>[]
 | n + 1=>erL ws i n ++ if n = i then [] else [ws.getD n default]
theorem fP {ws : List Wg} {i : Nat} : ∀ {n : Nat} {w : Wg},w ∈ erL ws i n -> ∃ a,a < n /\ a ≠ i /\ w = ws.getD a default
 | 0,w,h=>by cases h
 | n + 1,w,h=>by
   rw [erL] at h
   rcases List.mem_append.1 h with h | h
   ·obtain ⟨a,h1,h2,h3⟩:=fP h
    exact ⟨a,by omega,h2,h3⟩
   ·split at h
    ·cases h
    ·rename_i e
     rw [List.mem_singleton] at h
     exact ⟨n,by omega,e,h⟩
theorem zaa (ws : List Wg) (i : Nat) : ∀ n,(erL ws i n).length <= n
 | 0=>Nat.le_refl _
 | n + 1=>by
   have:=zaa ws i n
   rw [erL,List.length_append]
   split
   ·rw [List.length_nil];omega
   ·rw [List.length_singleton];omega
def wP (hh : Hu) (i : Nat) : Hu:=⟨hh.months,hh.peak,(erL hh.ws i hh.ws.length).isEmpty,erL hh.ws i hh.ws.length⟩
def wgB (l : List Wg) : Blk:=.grow 133 l.isEmpty (l.map wgA)
set_option maxHeartbeats 1000000 in
theorem zaC (hh : Hu) (ok : HuOk hh) (i : Nat) (hi : i < hh.ws.length) : Comp Tryz.prog 52 [huA hh,.sl false [natA i]] (.tup [huA (wP hh i),.int .i64 0]):=by
 have w1:=ok.w1
 have e1 : ((hh.ws.map wgA).length : Int) = hh.ws.length:=by rw [List.length_map]
 have e0 : (([natA i] : List AV).length : Int) = 1:=rfl
 have hc:=vA hh ok
 have hw:=w5 hh i w1
 rw [zz.2 (by omega)] at hw
 have hlm : (hh.ws.map wgA).length = ((hh.ws.map wgA).length : Int).toNat:=by omega
 have hcp : ∀ z : AV,splice (List.replicate ((hh.ws.map wgA).length : Int).toNat z) 0 ((hh.ws.map wgA).take ((hh.ws.map wgA).length : Int).toNat) = hh.ws.map wgA:=fun z=>by
  rw [show ((hh.ws.map wgA).length : Int).toNat = (hh.ws.map wgA).length by omega,List.take_length]
  unfold splice
  rw [List.take_zero,List.nil_append,List.drop_eq_nil_of_le (by rw [List.length_replicate];omega),List.append_nil]
 refine Comp.body (T:=tab) (res:=[.cell 4 129,.tmp 5]) za [2] Tryz.func52 rfl (by kernel_rfl) Tryz.ntmps52 rfl (by simp only [List.length_cons,List.length_nil];decide) (by simp only [lowL,AV.low,huL];rfl) ?_;conv=>whnf
 repeat' first|((with_reducible first|refine XBr.y2 fun h=>?_|refine XBr.n2 fun h=>?_|refine XBr.bne (fun h=>?_) fun h=>?_) <;> conv=>whnf)|((refine zf.ret hc ?_);conv=>whnf)|fail
 refine Walk.loopK za [] [(2,_),(4,_),(7,_),(20,_),(21,_)] ⟨rfl,rfl,rfl,rfl,rfl,trivial⟩ (fun k : Nat=>k <= 1) (fun k=>[(5,.int .i64 0),(22,natA k)]) (fun k=>[.cells (huC hh),.cells [.int .i64 0,.int .i64 0,.sl true []],.map (if k = 0 then [] else [((i : Int),.bool true)])]) (fun k=>1 - k) 0 (Nat.zero_le _) rfl ⟨rfl,rfl,trivial⟩ ?_
 intro k hk
 conv=>whnf
 have hck : k = 0 \/ k = 1:=by omega
 rcases hck with rfl | rfl
 ·rw [if_pos rfl]
  repeat' first|((with_reducible first|apply XBr.tt|apply XBr.ff|refine XBr.y fun h=>?_|refine XBr.n fun h=>?_|refine XBr.dec (fun h=>?_) fun h=>?_|refine XInt.a ?_) <;> conv=>whnf) | with_reducible apply XBr.not|((first|refine XIx.mk (by omega) (show (0 : Int) < 1 by decide) rfl ?_|refine zf.ret hw ?_|refine z7.mk' (v:=none) rfl ?_);conv=>whnf)|fail
  exact zu.go 1 (by omega) (by omega) rfl ⟨rfl,rfl,rfl,rfl,rfl,rfl,rfl,trivial⟩
 rw [if_neg (by omega)]
 repeat' first|((with_reducible first|refine XBr.y fun h=>?_|refine XBr.n fun h=>?_|refine XBr.dec (fun h=>?_) fun h=>?_) <;> conv=>whnf)|((first|refine zj.a ?_|refine zj.mk (je (f:=wgA) (n:=5) (fun _=>rfl) (fun _=>rfl) _) ?_|refine zj.mk ⟨rfl,by rw [List.length_replicate]⟩ ?_|(refine wc.mk ?_;rw [hcp]));conv=>whnf)|fail
 refine Walk.nilcell 0 2 133 rfl rfl ?_
 refine Walk.loopGK za [] [(2,.ptr 0 0),(4,.ptr 1 0),(5,_),(7,.mp 2),(49,_),(50,_)] ⟨rfl,rfl,rfl,rfl,rfl,rfl,trivial⟩ (fun n : Nat=>n <= hh.ws.length) (fun n=>[(51,natA n)]) (fun n=>[.cells [.int .i64 hh.months,.int .i64 hh.peak,.gr 4 (erL hh.ws i n).length],.cells [.int .i64 0,.int .i64 0,.sl true []],.map [((i : Int),.bool true)],.grow 133 false (hh.ws.map wgA),wgB (erL hh.ws i n)]) (fun n=>hh.ws.length - n) 0 (Nat.zero_le _) rfl ⟨rfl,trivial⟩ ?_ (fun _ _=>(show (5 : Nat) <= 5 from Nat.le_refl 5)) ?_
 ·intro n _
  refine ⟨fun z hz=>?_,fun z hz=>?_⟩
  ·simp only [List.mem_cons,List.not_mem_nil,or_false] at hz
   rcases hz with rfl | rfl | rfl | rfl | rfl <;> first | rfl|exact jg _
  ·simp only [List.cons_append,List.nil_append,List.mem_cons,List.not_mem_nil,or_false] at hz
   rcases hz with rfl | rfl | rfl | rfl | rfl | rfl | rfl <;> rfl
 intro n hn
 have hnx : erL hh.ws i (n + 1) = erL hh.ws i n ++ if n = i then [] else [hh.ws.getD n default]:=rfl
 have hle:=zaa hh.ws i n
 have hml : ((erL hh.ws i n).map wgA).length = (erL hh.ws i n).length:=List.length_map _
 conv=>whnf
 by_cases hlt : n < hh.ws.length
 ·by_cases hni : n = i
  ·rw [if_pos hni,List.append_nil] at hnx
   have hv : mget (n : Int) [((i : Int),AV.bool true)] = some (.bool true):=by
    show (if (i : Int) = (n : Int) then _ else _) = _
    rw [if_pos (by omega)]
   repeat' first|((with_reducible first|apply XBr.tt|refine XBr.y fun h=>?_|refine XBr.n fun h=>?_|refine XBr.dec (fun h=>?_) fun h=>?_|refine XInt.a ?_) <;> conv=>whnf) | with_reducible apply XBr.not|((first|refine zj.mk ⟨hlm,rfl,by omega,by omega⟩ ?_|refine XGet.mapF (f:=wgA) default (by omega) (by omega) ?_|refine z7.mk' hv ?_);conv=>whnf)|fail
   refine zq.go (n + 1) [.cells (wgC (hh.ws.getD n default))] (by omega) (by omega) ?_ ⟨rfl,rfl,rfl,rfl,rfl,rfl,rfl,trivial⟩
   rw [hnx];rfl
  ·rw [if_neg hni] at hnx
   have hv : mget (n : Int) [((i : Int),AV.bool true)] = none:=by
    show (if (i : Int) = (n : Int) then _ else _) = _
    rw [if_neg (by omega)];rfl
   repeat' first|((with_reducible first|apply XBr.ff|refine XBr.y fun h=>?_|refine XBr.n fun h=>?_|refine XBr.dec (fun h=>?_) fun h=>?_|refine XInt.a ?_) <;> conv=>whnf) | with_reducible apply XBr.not|((first|refine zj.a ?_|refine zj.mk ⟨hlm,rfl,by omega,by omega⟩ ?_|refine XGet.mapF (f:=wgA) default (by omega) (by omega) ?_|refine z7.mk' hv ?_);conv=>whnf)|fail
   refine zq.go (n + 1) [.cells (wgC (hh.ws.getD n default))] (by omega) (by omega) ?_ ⟨rfl,rfl,rfl,rfl,rfl,rfl,rfl,trivial⟩
   rw [hnx,List.length_append]
   unfold wgB
   rw [zO,List.map_append];rfl
 obtain rfl : n = hh.ws.length:=by omega
 repeat' ((with_reducible first|refine XBr.y fun h=>?_|refine XBr.n fun h=>?_|refine XBr.dec (fun h=>?_) fun h=>?_) <;> conv=>whnf)
 exact ⟨Froz.tup (.cons (Froz.agg (huOne (wP hh i)) (.cons (.low rfl) (.cons (.low rfl) (.cons (Froz.grow rfl hml (jg _)) .nil)))) (.cons (.low rfl) .nil))⟩
end GA
end
section
namespace GA
open Go Go.RowKit Go.Proofs
def wgtZ (n lost : Int) : Int:=n - (n * lost).tdiv 100
def meaZ (n lost part : Int) : Int:=(wgtZ n lost * part).tdiv 100
theorem wgt_b {n lost part : Int} (h1 : 0 <= n) (h2 : n <= 100) (h3 : 0 <= lost) (h4 : lost <= 90) (h5 : 10 <= part) (h6 : part <= 69) :
  (0 <= n * lost /\ n * lost <= 9000) /\ (0 <= (n * lost).tdiv 100 /\ (n * lost).tdiv 100 <= 90) /\ (0 <= wgtZ n lost /\ wgtZ n lost <= n /\ (0 < n -> 0 < wgtZ n lost)) /\ (0 <= wgtZ n lost * part /\ wgtZ n lost * part <= 6900) /\
   (0 <= meaZ n lost part /\ meaZ n lost part <= 69) /\ 100 * meaZ n lost part <= wgtZ n lost * part /\ wgtZ n lost * part < 100 * (meaZ n lost part + 1):=by
 have a1 : 0 <= n * lost:=Int.mul_nonneg h1 h3
 have a2 : n * lost <= n * 90:=Int.mul_le_mul_of_nonneg_left h4 h1
 have e1 : (n * lost).tdiv 100 = (n * lost) / 100:=Int.tdiv_eq_ediv_of_nonneg a1
 have b1 : 0 <= wgtZ n lost /\ wgtZ n lost <= n /\ (0 < n -> 0 < wgtZ n lost):=by unfold wgtZ;rw [e1];omega
 have c1 : 0 <= wgtZ n lost * part:=Int.mul_nonneg b1.1 (by omega)
 have c2 : wgtZ n lost * part <= wgtZ n lost * 69:=Int.mul_le_mul_of_nonneg_left h6 b1.1
 have e2 : meaZ n lost part = (wgtZ n lost * part) / 100:=Int.tdiv_eq_ediv_of_nonneg c1
 rw [e1,e2]
 refine ⟨by omega,by omega,b1,by omega,by omega,by omega,by omega⟩
def wgM (plan : List Int) (lost part : Int) (m : Nat) : Wg:=⟨(m : Int),wgtZ (plan.getD m default) lost,wgtZ (plan.getD m default) lost,meaZ (plan.getD m default) lost part,meaZ (plan.getD m default) lost part + 1⟩
def wgK (plan : List Int) (lost part : Int) : Nat -> List Wg
 | 0=>[]
 | m + 1=>wgK plan lost part m ++ if 0 < plan.getD m default /\ 0 < meaZ (plan.getD m default) lost part then [wgM plan lost part m] else []
theorem f9 (plan : List Int) (lost part : Int) : ∀ m,(wgK plan lost part m).length <= m
 | 0=>Nat.le_refl _
 | m + 1=>by
   have:=f9 plan lost part m
   rw [wgK,List.length_append]
   split
   ·rw [List.length_singleton];omega
   ·rw [List.length_nil];omega
theorem wgK_mem {plan : List Int} {lost part : Int} : ∀ {n : Nat} {w : Wg},w ∈ wgK plan lost part n -> ∃ m,m < n /\ w = wgM plan lost part m /\ 0 < plan.getD m default /\ 0 < meaZ (plan.getD m default) lost part
 | 0,w,h=>by cases h
 | n + 1,w,h=>by
   rw [wgK] at h
   rcases List.mem_append.1 h with h | h
   ·obtain ⟨m,h1,h2⟩:=wgK_mem h
    exact ⟨m,by omega,h2⟩
   ·split at h
    ·rename_i hc
     rw [List.mem_singleton] at h
     exact ⟨n,by omega,h,hc⟩
    ·cases h
theorem wgB_low {n : Nat} (l : List Wg) : (wgB l).low n = true:=jg l
theorem ren_wg (ρ : Nat -> Nat) (l : List Wg) : (wgB l).ren ρ = wgB l:=by
 show Blk.grow _ _ (renL ρ (l.map wgA)) = _
 rw [vm (jg l)];rfl
theorem za9 (nl : Bool) (plan : List Int) (lost part : Int) (hp : ∀ x ∈ plan,0 <= x /\ x <= 100) (hl : plan.length <= 12) (h1 : 0 <= lost /\ lost <= 90) (h2 : 10 <= part /\ part <= 69) :
  ke Tryz.prog 48 [.sl nl (ints plan),.int .i64 lost,.int .i64 part] (.gr 0 (wgK plan lost part plan.length).length) [wgB (wgK plan lost part plan.length)]:=by
 have e1 : ((ints plan).length : Int) = plan.length:=by rw [jI]
 refine ke.body (T:=tab) (res:=[.tmp 6]) za [] Tryz.func48 rfl (by kernel_rfl) Tryz.ntmps48 rfl (by simp only [List.length_cons,List.length_nil];decide) (by simp only [lowL,AV.low,lowI];rfl) rfl (fun x hx=>by rw [List.mem_singleton] at hx;subst hx;exact wgB_low _) ?_;conv=>whnf
 skip
 refine Walk.nilgr 7 133 rfl ?_
 refine Walk.loopGK za [] [(1,_),(2,_),(6,_),(12,_),(13,_)] ⟨rfl,rfl,rfl,rfl,rfl,trivial⟩ (fun m : Nat=>m <= plan.length) (fun m=>[(7,.gr 0 (wgK plan lost part m).length),(14,natA m)]) (fun m=>[wgB (wgK plan lost part m)]) (fun m=>plan.length - m) 0 (Nat.zero_le _) rfl ⟨rfl,rfl,trivial⟩ ?_ (fun _ _=>(show (1 : Nat) <= 1 from Nat.le_refl 1)) ?_
 ·intro m _
  refine ⟨fun z hz=>?_,fun z hz=>?_⟩
  ·rw [List.mem_singleton] at hz;subst hz;exact wgB_low _
  ·simp only [List.cons_append,List.nil_append,List.mem_cons,List.not_mem_nil,or_false] at hz
   rcases hz with rfl | rfl | rfl | rfl | rfl | rfl | rfl <;> first | rfl|exact lowI _
 intro m hm
 have hnx : wgK plan lost part (m + 1) = wgK plan lost part m ++ if 0 < plan.getD m default /\ 0 < meaZ (plan.getD m default) lost part then [wgM plan lost part m] else []:=rfl
 have hle:=f9 plan lost part m
 have hml : ((wgK plan lost part m).map wgA).length = (wgK plan lost part m).length:=List.length_map _
 conv=>whnf
 by_cases hlt : m < plan.length
 ·have hx:=hp _ (zn (d:=default) hlt)
  have hb:=wgt_b (n:=plan.getD m default) (lost:=lost) (part:=part) hx.1 hx.2 h1.1 h1.2 h2.1 h2.2
  unfold meaZ wgtZ at hb hnx
  by_cases hc : 0 < plan.getD m default /\ 0 < ((plan.getD m default - (plan.getD m default * lost).tdiv 100) * part).tdiv 100
  ·rw [if_pos hc] at hnx
   repeat' first|((with_reducible first|apply XBr.tt|refine XBr.y fun h=>?_|refine XBr.n fun h=>?_|refine XBr.dec (fun h=>?_) fun h=>?_|refine XInt.a ?_) <;> conv=>whnf)|((first|refine zj.a ?_|refine XIx.a ?_);conv=>whnf)|fail
   all_goals first|(exfalso;omega) | skip
   refine zq.go (m + 1) [] (by omega) (by omega) ?_ ⟨rfl,rfl,rfl,rfl,rfl,?_,rfl,trivial⟩
   ·rw [hnx];unfold wgB;rw [zO,List.map_append];rfl
   ·rw [hnx,List.length_append];rfl
  ·rw [if_neg hc,List.append_nil] at hnx
   repeat' first|((with_reducible first|apply XBr.tt|apply XBr.ff|refine XBr.y fun h=>?_|refine XBr.n fun h=>?_|refine XBr.dec (fun h=>?_) fun h=>?_|refine XInt.a ?_) <;> conv=>whnf)|((first|refine zj.a ?_|refine XIx.a ?_);conv=>whnf)|fail
   all_goals first|(exfalso;omega) | skip
   all_goals
    refine zq.go (m + 1) [] (by omega) (by omega) ?_ ⟨rfl,rfl,rfl,rfl,rfl,?_,rfl,trivial⟩
    ·rw [hnx];rfl
    ·rw [hnx];rfl
 obtain rfl : m = plan.length:=by omega
 repeat' ((with_reducible first|refine XBr.y fun h=>?_|refine XBr.n fun h=>?_|refine XBr.dec (fun h=>?_) fun h=>?_) <;> conv=>whnf)
 exact qZ.mk' [0] rfl (by decide) ⟨congrArg some (ren_wg _ _).symm,trivial⟩ (by show AV.gr 0 _ = AV.gr 0 _;congr 1)
end GA
end
section
namespace GA
open Go Go.RowKit Go.Proofs
def rowS (b : Bd) (j : Nat) (k : Nat) : List Int:=((List.range j).filter fun i=>(b.surveys.getD i default).m == (k : Int)).map fun i : Nat=>(i : Int)
theorem k6 (b : Bd) (j k : Nat) : rowS b (j + 1) k = if (b.surveys.getD j default).m = (k : Int) then rowS b j k ++ [(j : Int)] else rowS b j k:=by
 unfold rowS
 rw [List.range_succ,List.filter_append,List.map_append]
 by_cases h : (b.surveys.getD j default).m = (k : Int)
 ·have hb : ((b.surveys.getD j default).m == (k : Int)) = true:=by rw [h];exact beq_self_eq_true _
  rw [if_pos h,List.filter_cons,if_pos hb];rfl
 ·have hb : ((b.surveys.getD j default).m == (k : Int)) = false:=beq_eq_false_iff_ne.2 h
  rw [if_neg h,List.filter_cons,if_neg (by rw [hb];simp)];exact List.append_nil _
def esS (b : Bd) : Nat -> List (Int × AV)
 | 0=>[]
 | j + 1=>mput (b.surveys.getD j default).m (.gr (2 + (b.surveys.getD j default).m.toNat) (rowS b (j + 1) (b.surveys.getD j default).m.toNat).length) (esS b j)
theorem gV (n m : Int) (v : AV) : ∀ es : List (Int × AV),mget m (mput n v es) = if m = n then some v else mget m es
 | []=>by
   show (if n = m then some v else mget m []) = _
   by_cases h : m = n
   ·rw [if_pos h.symm,if_pos h]
   ·rw [if_neg (fun e=>h e.symm),if_neg h]
 | (q,u) :: l=>by
   have ih:=gV n m v l
   show mget m (if q = n then (q,v) :: l else (q,u) :: mput n v l) = _
   by_cases h1 : q = n
   ·rw [if_pos h1]
    show (if q = m then some v else mget m l) = if m = n then some v else (if q = m then some u else mget m l)
    subst h1
    by_cases h2 : q = m
    ·rw [if_pos h2,if_pos h2.symm]
    ·rw [if_neg h2,if_neg (fun e=>h2 e.symm),if_neg h2]
   ·rw [if_neg h1]
    show (if q = m then some u else mget m (mput n v l)) = if m = n then some v else (if q = m then some u else mget m l)
    by_cases h2 : q = m
    ·rw [if_pos h2,if_pos h2,if_neg (fun e=>h1 (h2.trans e))]
    ·rw [if_neg h2,if_neg h2,ih]
theorem esS_get (b : Bd) (hm : ∀ s ∈ b.surveys,0 <= s.m) : ∀ j,j <= b.surveys.length -> ∀ k : Nat,mget (k : Int) (esS b j) = if (rowS b j k).isEmpty = true then none else some (.gr (2 + k) (rowS b j k).length)
 | 0,_,k=>rfl
 | j + 1,hj,k=>by
   have h0:=hm _ (zn (xs:=b.surveys) (i:=j) (d:=default) (by omega))
   show mget (k : Int) (mput _ _ (esS b j)) = _
   rw [gV,esS_get b hm j (by omega) k]
   have hr:=k6 b j k
   generalize hmm : (b.surveys.getD j default).m = m at h0 hr
   by_cases h : (k : Int) = m
   ·have e : m.toNat = k:=by omega
    rw [if_pos h,e,hr,if_pos h.symm,if_neg (by simp)]
   ·rw [if_neg (fun e=>h e.symm)] at hr
    rw [if_neg h,hr]
theorem z7.rowI {H : List Blk} {es : List (Int × AV)} {n : Int} {k : AV -> Prop} (i : Nat) {te : TypeId} {xs : List Int} (hi : lget H i = some (.grow te xs.isEmpty (ints xs))) (he : mget n es = if xs.isEmpty = true then none else some (.gr i xs.length)) (h : k (.gr i xs.length)) : z7 H (.sl true []) false n es k:=by
 refine z7.row i hi (by cases xs <;> rfl) ?_ ?_
 ·rw [he];cases xs <;> simp
 ·rw [List.length_map];exact h
theorem za0 {n : Nat} (q : Int) (v : AV) (hv : v.low n = true) : ∀ es : List (Int × AV),lowL n (es.map (·.2)) = true -> lowL n ((mput q v es).map (·.2)) = true
 | [],_=>by show (v.low n && true) = true;rw [hv];rfl
 | (m,u) :: l,h=>by
   have h' : (u.low n && lowL n (l.map (·.2))) = true:=h
   rw [Bool.and_eq_true] at h'
   show lowL n ((if m = q then (m,v) :: l else (m,u) :: mput q v l).map (·.2)) = true
   split
   ·show (v.low n && lowL n (l.map (·.2))) = true;rw [hv,h'.2];rfl
   ·show (u.low n && lowL n ((mput q v l).map (·.2))) = true;rw [h'.1,za0 q v hv l h'.2];rfl
theorem zab (b : Bd) (hm : ∀ s ∈ b.surveys,0 <= s.m /\ s.m <= 10) : ∀ j,j <= b.surveys.length -> lowL 13 ((esS b j).map (·.2)) = true
 | 0,_=>rfl
 | j + 1,hj=>by
   have h0:=hm _ (zn (xs:=b.surveys) (i:=j) (d:=default) (by omega))
   refine za0 _ _ ?_ _ (zab b hm j (by omega))
   simp only [AV.low,decide_eq_true_eq];omega
def rowB (b : Bd) (j k : Nat) : Blk:=.grow 3 (rowS b j k).isEmpty (ints (rowS b j k))
theorem zd {b : Bd} {j q : Nat} (h : (b.surveys.getD j default).m ≠ (q : Int)) : rowB b (j + 1) q = rowB b j q:=by unfold rowB;rw [k6,if_neg h]
theorem z6 {b : Bd} {j q : Nat} (h : (b.surveys.getD j default).m = (q : Int)) : rowB b (j + 1) q = .grow 3 ((rowS b j q).isEmpty && false) (ints (rowS b j q) ++ [natA j]):=by
 unfold rowB;rw [k6,if_pos h,zO,ints,List.map_append];rfl
theorem rowS_hit {b : Bd} {j q : Nat} (h : (b.surveys.getD j default).m = (q : Int)) : (rowS b (j + 1) q).length = (rowS b j q).length + 1:=by
 rw [k6,if_pos h,List.length_append];rfl
def dskS (b : Bd) : List Blk:=[.map (esS b b.surveys.length),.cells (bedC b ++ [.mp 0]),rowB b b.surveys.length 0,rowB b b.surveys.length 1,rowB b b.surveys.length 2,rowB b b.surveys.length 3,rowB b b.surveys.length 4,rowB b b.surveys.length 5,rowB b b.surveys.length 6,rowB b b.surveys.length 7,rowB b b.surveys.length 8,rowB b b.surveys.length 9,rowB b b.surveys.length 10]
theorem gj (b : Bd) (hm : ∀ s ∈ b.surveys,0 <= s.m /\ s.m <= 10) : ∀ x ∈ dskS b,x.low 13 = true:=fun x hx=>by
 simp only [dskS,List.mem_cons,List.not_mem_nil,or_false] at hx
 rcases hx with rfl | rfl | rfl | rfl | rfl | rfl | rfl | rfl | rfl | rfl | rfl | rfl | rfl
 ·exact zab b hm _ (Nat.le_refl _)
 ·simp only [Blk.low,bedC,List.cons_append,List.nil_append,lowL,AV.low,kJ,js];rfl
 all_goals exact lowI _
theorem SelR.id {f : Nat -> Nat} {H : List Blk} {n : Nat} (hf : ∀ i,i < n -> f i = i) : ∀ (l : List Blk) (i : Nat),i + l.length = n -> (∀ x ∈ l,x.low n = true) -> (∀ (j : Nat) x,l[j]? = some x -> lget H (i + j) = some x) -> SelR f H i l
 | [],_,_,_,_=>trivial
 | x :: l,i,hl,lo,hg=>by
   simp only [List.length_cons] at hl
   refine ⟨?_,SelR.id hf l (i + 1) (by omega) (fun y hy=>lo y (List.mem_cons_of_mem _ hy)) fun j y e=>?_⟩
   ·rw [hf i (by omega),Blk.ren_low hf (lo x List.mem_cons_self)];exact hg 0 x rfl
   ·have:=hg (j + 1) y (by simpa using e)
    rwa [show i + (j + 1) = i + 1 + j by omega] at this
set_option maxHeartbeats 4000000 in
theorem wO (b : Bd) (hE : bedE b = 0) (h1 : b.months.length <= 10) (h2 : b.surveys.length <= 8) (hm : ∀ s ∈ b.surveys,0 <= s.m /\ s.m <= 10) : ke Tryz.prog 327 [bedA b] (.tup [.ptr 1 0,.int .i64 0]) (dskS b):=by
 have hc:=ww b (by omega) (by omega)
 rw [hE] at hc
 have e2 : ((b.surveys.map suA).length : Int) = b.surveys.length:=by rw [List.length_map]
 refine ke.body (T:=tab) (res:=[.tmp 2,.tmp 3]) za [16] Tryz.func327 rfl (by kernel_rfl) Tryz.ntmps327 rfl (by simp only [List.length_cons,List.length_nil];decide) (by simp only [lowL,bedL];rfl) rfl (gj b hm) ?_;conv=>whnf
 repeat' first|((with_reducible first|refine XBr.y2 fun h=>?_|refine XBr.n2 fun h=>?_|refine XBr.bne (fun h=>?_) fun h=>?_) <;> conv=>whnf)|((refine zf.ret hc ?_);conv=>whnf)|fail
 iterate 11 refine Walk.nilrow 3 ?_
 refine Walk.loopG za [] (fun j : Nat=>j <= b.surveys.length) (fun j=>[(2,.nilp),(3,.int .i64 0),(5,.ptr 1 0),(18,.sl b.nls (b.surveys.map suA)),(19,.int .i64 b.surveys.length),(20,natA j)])
  (fun j=>[.map (esS b j),.cells (bedC b ++ [.mp 0]),rowB b j 0,rowB b j 1,rowB b j 2,rowB b j 3,rowB b j 4,rowB b j 5,rowB b j 6,rowB b j 7,rowB b j 8,rowB b j 9,rowB b j 10]) (fun j=>b.surveys.length - j) 0 (Nat.zero_le _) rfl ⟨rfl,rfl,rfl,rfl,congrArg (fun z=>some (AV.int .i64 z)) e2,rfl,trivial⟩ ?_ ?_ ?_
 ·intro j hj
  refine ⟨fun x hx=>?_,fun p hp=>?_⟩
  ·simp only [List.mem_cons,List.not_mem_nil,or_false] at hx
   rcases hx with rfl | rfl | rfl | rfl | rfl | rfl | rfl | rfl | rfl | rfl | rfl | rfl | rfl
   ·exact zab b hm j hj
   ·simp only [Blk.low,bedC,List.cons_append,List.nil_append,lowL,AV.low,kJ,js];rfl
   all_goals exact lowI _
  ·simp only [List.mem_cons,List.not_mem_nil,or_false] at hp
   rcases hp with rfl | rfl | rfl | rfl | rfl | rfl <;> first | rfl|exact js _
 ·intro j _;exact (show (13 : Nat) <= 13 from Nat.le_refl 13)
 intro j hj
 conv=>whnf
 repeat' first|((with_reducible first|refine XBr.y fun h=>?_|refine XBr.n fun h=>?_|refine XBr.dec (fun h=>?_) fun h=>?_) <;> conv=>whnf)|(refine XIx.a ?_;conv=>whnf)|fail
 ·have hsv:=hm _ (zn (xs:=b.surveys) (i:=j) (d:=default) (by omega))
  have hg:=esS_get b (fun s h=>(hm s h).1) j (by omega)
  have hes : esS b (j + 1) = mput (b.surveys.getD j default).m (.gr (2 + (b.surveys.getD j default).m.toNat) (rowS b (j + 1) (b.surveys.getD j default).m.toNat).length) (esS b j):=rfl
  have hrl : ∀ k,(rowS b j k).length <= j:=fun k=>by unfold rowS;rw [List.length_map];exact Nat.le_trans (List.length_filter_le _ _) (by simp)
  obtain ⟨k,hk10,hkm⟩ : ∃ k : Nat,k <= 10 /\ (b.surveys.getD j default).m = k:=⟨(b.surveys.getD j default).m.toNat,by omega,by omega⟩
  rw [hkm] at hes ⊢
  rw [Int.toNat_natCast,rowS_hit hkm] at hes
  have hkk : k = 0 \/ k = 1 \/ k = 2 \/ k = 3 \/ k = 4 \/ k = 5 \/ k = 6 \/ k = 7 \/ k = 8 \/ k = 9 \/ k = 10:=by omega
  rcases hkk with rfl | rfl | rfl | rfl | rfl | rfl | rfl | rfl | rfl | rfl | rfl
  ·have hl:=hrl 0
   have hgk:=hg 0
   apply Walk.drawX za zi [] [15,16] (hsV _ [id,fun H=>H.set 2 (.grow 3 ((rowS b j 0).isEmpty && false) (ints (rowS b j 0) ++ [natA j])),fun H=>(H.set 2 (.grow 3 ((rowS b j 0).isEmpty && false) (ints (rowS b j 0) ++ [natA j]))).set 0 (.map (mput 0 (.gr 2 ((rowS b j 0).length + 1)) (esS b j)))]) [_,_,_,_,_,_,_,_,_,_,_,_,.gr 2 (rowS b j 0).length,_,_,.gr 2 ((rowS b j 0).length + 1),_] (by kernel_rfl) rfl
   ·skip
    repeat' first|((with_reducible first|apply Chk.go|apply ChkA.go);conv=>whnf)|(refine zj.a ?_;conv=>whnf)|(with_reducible first|apply XAnd.mk|exact trivial)|(exact zm.mk rfl rfl)|((refine z7.rowI (te:=3) (xs:=rowS b j 0) 2 rfl hgk ?_);conv=>whnf)|fail
   ·skip
    repeat' first|((with_reducible first|apply Chk.go|apply ChkF.go|apply ChkB.go);conv=>whnf)|(with_reducible first|apply XAnd.mk|exact trivial)|(exact zm.mk rfl rfl)|fail
   conv=>whnf
   repeat' ((with_reducible refine XInt.a ?_);conv=>whnf)
   refine zq.go (j + 1) [.cells [.int .i64 0,.int .i64 (b.surveys.getD j default).lo,.int .i64 (b.surveys.getD j default).hi]] (show j + 1 <= b.surveys.length by omega) (show b.surveys.length - (j + 1) < b.surveys.length - j by omega) ?_ ⟨rfl,rfl,rfl,rfl,rfl,rfl,trivial⟩
   rw [hes,z6 hkm,zd (q:=1) (by rw [hkm];decide),zd (q:=2) (by rw [hkm];decide),zd (q:=3) (by rw [hkm];decide),zd (q:=4) (by rw [hkm];decide),zd (q:=5) (by rw [hkm];decide),zd (q:=6) (by rw [hkm];decide),zd (q:=7) (by rw [hkm];decide),zd (q:=8) (by rw [hkm];decide),zd (q:=9) (by rw [hkm];decide),zd (q:=10) (by rw [hkm];decide)]
   rfl
  ·have hl:=hrl 1
   have hgk:=hg 1
   apply Walk.drawX za zi [] [15,16] (hsV _ [id,fun H=>H.set 3 (.grow 3 ((rowS b j 1).isEmpty && false) (ints (rowS b j 1) ++ [natA j])),fun H=>(H.set 3 (.grow 3 ((rowS b j 1).isEmpty && false) (ints (rowS b j 1) ++ [natA j]))).set 0 (.map (mput 1 (.gr 3 ((rowS b j 1).length + 1)) (esS b j)))]) [_,_,_,_,_,_,_,_,_,_,_,_,.gr 3 (rowS b j 1).length,_,_,.gr 3 ((rowS b j 1).length + 1),_] (by kernel_rfl) rfl
   ·skip
    repeat' first|((with_reducible first|apply Chk.go|apply ChkA.go);conv=>whnf)|(refine zj.a ?_;conv=>whnf)|(with_reducible first|apply XAnd.mk|exact trivial)|(exact zm.mk rfl rfl)|((refine z7.rowI (te:=3) (xs:=rowS b j 1) 3 rfl hgk ?_);conv=>whnf)|fail
   ·skip
    repeat' first|((with_reducible first|apply Chk.go|apply ChkF.go|apply ChkB.go);conv=>whnf)|(with_reducible first|apply XAnd.mk|exact trivial)|(exact zm.mk rfl rfl)|fail
   conv=>whnf
   repeat' ((with_reducible refine XInt.a ?_);conv=>whnf)
   refine zq.go (j + 1) [.cells [.int .i64 1,.int .i64 (b.surveys.getD j default).lo,.int .i64 (b.surveys.getD j default).hi]] (show j + 1 <= b.surveys.length by omega) (show b.surveys.length - (j + 1) < b.surveys.length - j by omega) ?_ ⟨rfl,rfl,rfl,rfl,rfl,rfl,trivial⟩
   rw [hes,zd (q:=0) (by rw [hkm];decide),z6 hkm,zd (q:=2) (by rw [hkm];decide),zd (q:=3) (by rw [hkm];decide),zd (q:=4) (by rw [hkm];decide),zd (q:=5) (by rw [hkm];decide),zd (q:=6) (by rw [hkm];decide),zd (q:=7) (by rw [hkm];decide),zd (q:=8) (by rw [hkm];decide),zd (q:=9) (by rw [hkm];decide),zd (q:=10) (by rw [hkm];decide)]
   rfl
  ·have hl:=hrl 2
   have hgk:=hg 2
   apply Walk.drawX za zi [] [15,16] (hsV _ [id,fun H=>H.set 4 (.grow 3 ((rowS b j 2).isEmpty && false) (ints (rowS b j 2) ++ [natA j])),fun H=>(H.set 4 (.grow 3 ((rowS b j 2).isEmpty && false) (ints (rowS b j 2) ++ [natA j]))).set 0 (.map (mput 2 (.gr 4 ((rowS b j 2).length + 1)) (esS b j)))]) [_,_,_,_,_,_,_,_,_,_,_,_,.gr 4 (rowS b j 2).length,_,_,.gr 4 ((rowS b j 2).length + 1),_] (by kernel_rfl) rfl
   ·skip
    repeat' first|((with_reducible first|apply Chk.go|apply ChkA.go);conv=>whnf)|(refine zj.a ?_;conv=>whnf)|(with_reducible first|apply XAnd.mk|exact trivial)|(exact zm.mk rfl rfl)|((refine z7.rowI (te:=3) (xs:=rowS b j 2) 4 rfl hgk ?_);conv=>whnf)|fail
   ·skip
    repeat' first|((with_reducible first|apply Chk.go|apply ChkF.go|apply ChkB.go);conv=>whnf)|(with_reducible first|apply XAnd.mk|exact trivial)|(exact zm.mk rfl rfl)|fail
   conv=>whnf
   repeat' ((with_reducible refine XInt.a ?_);conv=>whnf)
   refine zq.go (j + 1) [.cells [.int .i64 2,.int .i64 (b.surveys.getD j default).lo,.int .i64 (b.surveys.getD j default).hi]] (show j + 1 <= b.surveys.length by omega) (show b.surveys.length - (j + 1) < b.surveys.length - j by omega) ?_ ⟨rfl,rfl,rfl,rfl,rfl,rfl,trivial⟩
   rw [hes,zd (q:=0) (by rw [hkm];decide),zd (q:=1) (by rw [hkm];decide),z6 hkm,zd (q:=3) (by rw [hkm];decide),zd (q:=4) (by rw [hkm];decide),zd (q:=5) (by rw [hkm];decide),zd (q:=6) (by rw [hkm];decide),zd (q:=7) (by rw [hkm];decide),zd (q:=8) (by rw [hkm];decide),zd (q:=9) (by rw [hkm];decide),zd (q:=10) (by rw [hkm];decide)]
   rfl
  ·have hl:=hrl 3
   have hgk:=hg 3
   apply Walk.drawX za zi [] [15,16] (hsV _ [id,fun H=>H.set 5 (.grow 3 ((rowS b j 3).isEmpty && false) (ints (rowS b j 3) ++ [natA j])),fun H=>(H.set 5 (.grow 3 ((rowS b j 3).isEmpty && false) (ints (rowS b j 3) ++ [natA j]))).set 0 (.map (mput 3 (.gr 5 ((rowS b j 3).length + 1)) (esS b j)))]) [_,_,_,_,_,_,_,_,_,_,_,_,.gr 5 (rowS b j 3).length,_,_,.gr 5 ((rowS b j 3).length + 1),_] (by kernel_rfl) rfl
   ·skip
    repeat' first|((with_reducible first|apply Chk.go|apply ChkA.go);conv=>whnf)|(refine zj.a ?_;conv=>whnf)|(with_reducible first|apply XAnd.mk|exact trivial)|(exact zm.mk rfl rfl)|((refine z7.rowI (te:=3) (xs:=rowS b j 3) 5 rfl hgk ?_);conv=>whnf)|fail
   ·skip
    repeat' first|((with_reducible first|apply Chk.go|apply ChkF.go|apply ChkB.go);conv=>whnf)|(with_reducible first|apply XAnd.mk|exact trivial)|(exact zm.mk rfl rfl)|fail
   conv=>whnf
   repeat' ((with_reducible refine XInt.a ?_);conv=>whnf)
   refine zq.go (j + 1) [.cells [.int .i64 3,.int .i64 (b.surveys.getD j default).lo,.int .i64 (b.surveys.getD j default).hi]] (show j + 1 <= b.surveys.length by omega) (show b.surveys.length - (j + 1) < b.surveys.length - j by omega) ?_ ⟨rfl,rfl,rfl,rfl,rfl,rfl,trivial⟩
   rw [hes,zd (q:=0) (by rw [hkm];decide),zd (q:=1) (by rw [hkm];decide),zd (q:=2) (by rw [hkm];decide),z6 hkm,zd (q:=4) (by rw [hkm];decide),zd (q:=5) (by rw [hkm];decide),zd (q:=6) (by rw [hkm];decide),zd (q:=7) (by rw [hkm];decide),zd (q:=8) (by rw [hkm];decide),zd (q:=9) (by rw [hkm];decide),zd (q:=10) (by rw [hkm];decide)]
   rfl
  ·have hl:=hrl 4
   have hgk:=hg 4
   apply Walk.drawX za zi [] [15,16] (hsV _ [id,fun H=>H.set 6 (.grow 3 ((rowS b j 4).isEmpty && false) (ints (rowS b j 4) ++ [natA j])),fun H=>(H.set 6 (.grow 3 ((rowS b j 4).isEmpty && false) (ints (rowS b j 4) ++ [natA j]))).set 0 (.map (mput 4 (.gr 6 ((rowS b j 4).length + 1)) (esS b j)))]) [_,_,_,_,_,_,_,_,_,_,_,_,.gr 6 (rowS b j 4).length,_,_,.gr 6 ((rowS b j 4).length + 1),_] (by kernel_rfl) rfl
   ·skip
    repeat' first|((with_reducible first|apply Chk.go|apply ChkA.go);conv=>whnf)|(refine zj.a ?_;conv=>whnf)|(with_reducible first|apply XAnd.mk|exact trivial)|(exact zm.mk rfl rfl)|((refine z7.rowI (te:=3) (xs:=rowS b j 4) 6 rfl hgk ?_);conv=>whnf)|fail
   ·skip
    repeat' first|((with_reducible first|apply Chk.go|apply ChkF.go|apply ChkB.go);conv=>whnf)|(with_reducible first|apply XAnd.mk|exact trivial)|(exact zm.mk rfl rfl)|fail
   conv=>whnf
   repeat' ((with_reducible refine XInt.a ?_);conv=>whnf)
   refine zq.go (j + 1) [.cells [.int .i64 4,.int .i64 (b.surveys.getD j default).lo,.int .i64 (b.surveys.getD j default).hi]] (show j + 1 <= b.surveys.length by omega) (show b.surveys.length - (j + 1) < b.surveys.length - j by omega) ?_ ⟨rfl,rfl,rfl,rfl,rfl,rfl,trivial⟩
   rw [hes,zd (q:=0) (by rw [hkm];decide),zd (q:=1) (by rw [hkm];decide),zd (q:=2) (by rw [hkm];decide),zd (q:=3) (by rw [hkm];decide),z6 hkm,zd (q:=5) (by rw [hkm];decide),zd (q:=6) (by rw [hkm];decide),zd (q:=7) (by rw [hkm];decide),zd (q:=8) (by rw [hkm];decide),zd (q:=9) (by rw [hkm];decide),zd (q:=10) (by rw [hkm];decide)]
   rfl
  ·have hl:=hrl 5
   have hgk:=hg 5
   apply Walk.drawX za zi [] [15,16] (hsV _ [id,fun H=>H.set 7 (.grow 3 ((rowS b j 5).isEmpty && false) (ints (rowS b j 5) ++ [natA j])),fun H=>(H.set 7 (.grow 3 ((rowS b j 5).isEmpty && false) (ints (rowS b j 5) ++ [natA j]))).set 0 (.map (mput 5 (.gr 7 ((rowS b j 5).length + 1)) (esS b j)))]) [_,_,_,_,_,_,_,_,_,_,_,_,.gr 7 (rowS b j 5).length,_,_,.gr 7 ((rowS b j 5).length + 1),_] (by kernel_rfl) rfl
   ·skip
    repeat' first|((with_reducible first|apply Chk.go|apply ChkA.go);conv=>whnf)|(refine zj.a ?_;conv=>whnf)|(with_reducible first|apply XAnd.mk|exact trivial)|(exact zm.mk rfl rfl)|((refine z7.rowI (te:=3) (xs:=rowS b j 5) 7 rfl hgk ?_);conv=>whnf)|fail
   ·skip
    repeat' first|((with_reducible first|apply Chk.go|apply ChkF.go|apply ChkB.go);conv=>whnf)|(with_reducible first|apply XAnd.mk|exact trivial)|(exact zm.mk rfl rfl)|fail
   conv=>whnf
   repeat' ((with_reducible refine XInt.a ?_);conv=>whnf)
   refine zq.go (j + 1) [.cells [.int .i64 5,.int .i64 (b.surveys.getD j default).lo,.int .i64 (b.surveys.getD j default).hi]] (show j + 1 <= b.surveys.length by omega) (show b.surveys.length - (j + 1) < b.surveys.length - j by omega) ?_ ⟨rfl,rfl,rfl,rfl,rfl,rfl,trivial⟩
   rw [hes,zd (q:=0) (by rw [hkm];decide),zd (q:=1) (by rw [hkm];decide),zd (q:=2) (by rw [hkm];decide),zd (q:=3) (by rw [hkm];decide),zd (q:=4) (by rw [hkm];decide),z6 hkm,zd (q:=6) (by rw [hkm];decide),zd (q:=7) (by rw [hkm];decide),zd (q:=8) (by rw [hkm];decide),zd (q:=9) (by rw [hkm];decide),zd (q:=10) (by rw [hkm];decide)]
   rfl
  ·have hl:=hrl 6
   have hgk:=hg 6
   apply Walk.drawX za zi [] [15,16] (hsV _ [id,fun H=>H.set 8 (.grow 3 ((rowS b j 6).isEmpty && false) (ints (rowS b j 6) ++ [natA j])),fun H=>(H.set 8 (.grow 3 ((rowS b j 6).isEmpty && false) (ints (rowS b j 6) ++ [natA j]))).set 0 (.map (mput 6 (.gr 8 ((rowS b j 6).length + 1)) (esS b j)))]) [_,_,_,_,_,_,_,_,_,_,_,_,.gr 8 (rowS b j 6).length,_,_,.gr 8 ((rowS b j 6).length + 1),_] (by kernel_rfl) rfl
   ·skip
    repeat' first|((with_reducible first|apply Chk.go|apply ChkA.go);conv=>whnf)|(refine zj.a ?_;conv=>whnf)|(with_reducible first|apply XAnd.mk|exact trivial)|(exact zm.mk rfl rfl)|((refine z7.rowI (te:=3) (xs:=rowS b j 6) 8 rfl hgk ?_);conv=>whnf)|fail
   ·skip
    repeat' first|((with_reducible first|apply Chk.go|apply ChkF.go|apply ChkB.go);conv=>whnf)|(with_reducible first|apply XAnd.mk|exact trivial)|(exact zm.mk rfl rfl)|fail
   conv=>whnf
   repeat' ((with_reducible refine XInt.a ?_);conv=>whnf)
   refine zq.go (j + 1) [.cells [.int .i64 6,.int .i64 (b.surveys.getD j default).lo,.int .i64 (b.surveys.getD j default).hi]] (show j + 1 <= b.surveys.length by omega) (show b.surveys.length - (j + 1) < b.surveys.length - j by omega) ?_ ⟨rfl,rfl,rfl,rfl,rfl,rfl,trivial⟩
   rw [hes,zd (q:=0) (by rw [hkm];decide),zd (q:=1) (by rw [hkm];decide),zd (q:=2) (by rw [hkm];decide),zd (q:=3) (by rw [hkm];decide),zd (q:=4) (by rw [hkm];decide),zd (q:=5) (by rw [hkm];decide),z6 hkm,zd (q:=7) (by rw [hkm];decide),zd (q:=8) (by rw [hkm];decide),zd (q:=9) (by rw [hkm];decide),zd (q:=10) (by rw [hkm];decide)]
   rfl
  ·have hl:=hrl 7
   have hgk:=hg 7
   apply Walk.drawX za zi [] [15,16] (hsV _ [id,fun H=>H.set 9 (.grow 3 ((rowS b j 7).isEmpty && false) (ints (rowS b j 7) ++ [natA j])),fun H=>(H.set 9 (.grow 3 ((rowS b j 7).isEmpty && false) (ints (rowS b j 7) ++ [natA j]))).set 0 (.map (mput 7 (.gr 9 ((rowS b j 7).length + 1)) (esS b j)))]) [_,_,_,_,_,_,_,_,_,_,_,_,.gr 9 (rowS b j 7).length,_,_,.gr 9 ((rowS b j 7).length + 1),_] (by kernel_rfl) rfl
   ·skip
    repeat' first|((with_reducible first|apply Chk.go|apply ChkA.go);conv=>whnf)|(refine zj.a ?_;conv=>whnf)|(with_reducible first|apply XAnd.mk|exact trivial)|(exact zm.mk rfl rfl)|((refine z7.rowI (te:=3) (xs:=rowS b j 7) 9 rfl hgk ?_);conv=>whnf)|fail
   ·skip
    repeat' first|((with_reducible first|apply Chk.go|apply ChkF.go|apply ChkB.go);conv=>whnf)|(with_reducible first|apply XAnd.mk|exact trivial)|(exact zm.mk rfl rfl)|fail
   conv=>whnf
   repeat' ((with_reducible refine XInt.a ?_);conv=>whnf)
   refine zq.go (j + 1) [.cells [.int .i64 7,.int .i64 (b.surveys.getD j default).lo,.int .i64 (b.surveys.getD j default).hi]] (show j + 1 <= b.surveys.length by omega) (show b.surveys.length - (j + 1) < b.surveys.length - j by omega) ?_ ⟨rfl,rfl,rfl,rfl,rfl,rfl,trivial⟩
   rw [hes,zd (q:=0) (by rw [hkm];decide),zd (q:=1) (by rw [hkm];decide),zd (q:=2) (by rw [hkm];decide),zd (q:=3) (by rw [hkm];decide),zd (q:=4) (by rw [hkm];decide),zd (q:=5) (by rw [hkm];decide),zd (q:=6) (by rw [hkm];decide),z6 hkm,zd (q:=8) (by rw [hkm];decide),zd (q:=9) (by rw [hkm];decide),zd (q:=10) (by rw [hkm];decide)]
   rfl
  ·have hl:=hrl 8
   have hgk:=hg 8
   apply Walk.drawX za zi [] [15,16] (hsV _ [id,fun H=>H.set 10 (.grow 3 ((rowS b j 8).isEmpty && false) (ints (rowS b j 8) ++ [natA j])),fun H=>(H.set 10 (.grow 3 ((rowS b j 8).isEmpty && false) (ints (rowS b j 8) ++ [natA j]))).set 0 (.map (mput 8 (.gr 10 ((rowS b j 8).length + 1)) (esS b j)))]) [_,_,_,_,_,_,_,_,_,_,_,_,.gr 10 (rowS b j 8).length,_,_,.gr 10 ((rowS b j 8).length + 1),_] (by kernel_rfl) rfl
   ·skip
    repeat' first|((with_reducible first|apply Chk.go|apply ChkA.go);conv=>whnf)|(refine zj.a ?_;conv=>whnf)|(with_reducible first|apply XAnd.mk|exact trivial)|(exact zm.mk rfl rfl)|((refine z7.rowI (te:=3) (xs:=rowS b j 8) 10 rfl hgk ?_);conv=>whnf)|fail
   ·skip
    repeat' first|((with_reducible first|apply Chk.go|apply ChkF.go|apply ChkB.go);conv=>whnf)|(with_reducible first|apply XAnd.mk|exact trivial)|(exact zm.mk rfl rfl)|fail
   conv=>whnf
   repeat' ((with_reducible refine XInt.a ?_);conv=>whnf)
   refine zq.go (j + 1) [.cells [.int .i64 8,.int .i64 (b.surveys.getD j default).lo,.int .i64 (b.surveys.getD j default).hi]] (show j + 1 <= b.surveys.length by omega) (show b.surveys.length - (j + 1) < b.surveys.length - j by omega) ?_ ⟨rfl,rfl,rfl,rfl,rfl,rfl,trivial⟩
   rw [hes,zd (q:=0) (by rw [hkm];decide),zd (q:=1) (by rw [hkm];decide),zd (q:=2) (by rw [hkm];decide),zd (q:=3) (by rw [hkm];decide),zd (q:=4) (by rw [hkm];decide),zd (q:=5) (by rw [hkm];decide),zd (q:=6) (by rw [hkm];decide),zd (q:=7) (by rw [hkm];decide),z6 hkm,zd (q:=9) (by rw [hkm];decide),zd (q:=10) (by rw [hkm];decide)]
   rfl
  ·have hl:=hrl 9
   have hgk:=hg 9
   apply Walk.drawX za zi [] [15,16] (hsV _ [id,fun H=>H.set 11 (.grow 3 ((rowS b j 9).isEmpty && false) (ints (rowS b j 9) ++ [natA j])),fun H=>(H.set 11 (.grow 3 ((rowS b j 9).isEmpty && false) (ints (rowS b j 9) ++ [natA j]))).set 0 (.map (mput 9 (.gr 11 ((rowS b j 9).length + 1)) (esS b j)))]) [_,_,_,_,_,_,_,_,_,_,_,_,.gr 11 (rowS b j 9).length,_,_,.gr 11 ((rowS b j 9).length + 1),_] (by kernel_rfl) rfl
   ·skip
    repeat' first|((with_reducible first|apply Chk.go|apply ChkA.go);conv=>whnf)|(refine zj.a ?_;conv=>whnf)|(with_reducible first|apply XAnd.mk|exact trivial)|(exact zm.mk rfl rfl)|((refine z7.rowI (te:=3) (xs:=rowS b j 9) 11 rfl hgk ?_);conv=>whnf)|fail
   ·skip
    repeat' first|((with_reducible first|apply Chk.go|apply ChkF.go|apply ChkB.go);conv=>whnf)|(with_reducible first|apply XAnd.mk|exact trivial)|(exact zm.mk rfl rfl)|fail
   conv=>whnf
   repeat' ((with_reducible refine XInt.a ?_);conv=>whnf)
   refine zq.go (j + 1) [.cells [.int .i64 9,.int .i64 (b.surveys.getD j default).lo,.int .i64 (b.surveys.getD j default).hi]] (show j + 1 <= b.surveys.length by omega) (show b.surveys.length - (j + 1) < b.surveys.length - j by omega) ?_ ⟨rfl,rfl,rfl,rfl,rfl,rfl,trivial⟩
   rw [hes,zd (q:=0) (by rw [hkm];decide),zd (q:=1) (by rw [hkm];decide),zd (q:=2) (by rw [hkm];decide),zd (q:=3) (by rw [hkm];decide),zd (q:=4) (by rw [hkm];decide),zd (q:=5) (by rw [hkm];decide),zd (q:=6) (by rw [hkm];decide),zd (q:=7) (by rw [hkm];decide),zd (q:=8) (by rw [hkm];decide),z6 hkm,zd (q:=10) (by rw [hkm];decide)]
   rfl
  ·have hl:=hrl 10
   have hgk:=hg 10
   apply Walk.drawX za zi [] [15,16] (hsV _ [id,fun H=>H.set 12 (.grow 3 ((rowS b j 10).isEmpty && false) (ints (rowS b j 10) ++ [natA j])),fun H=>(H.set 12 (.grow 3 ((rowS b j 10).isEmpty && false) (ints (rowS b j 10) ++ [natA j]))).set 0 (.map (mput 10 (.gr 12 ((rowS b j 10).length + 1)) (esS b j)))]) [_,_,_,_,_,_,_,_,_,_,_,_,.gr 12 (rowS b j 10).length,_,_,.gr 12 ((rowS b j 10).length + 1),_] (by kernel_rfl) rfl
   ·skip
    repeat' first|((with_reducible first|apply Chk.go|apply ChkA.go);conv=>whnf)|(refine zj.a ?_;conv=>whnf)|(with_reducible first|apply XAnd.mk|exact trivial)|(exact zm.mk rfl rfl)|((refine z7.rowI (te:=3) (xs:=rowS b j 10) 12 rfl hgk ?_);conv=>whnf)|fail
   ·skip
    repeat' first|((with_reducible first|apply Chk.go|apply ChkF.go|apply ChkB.go);conv=>whnf)|(with_reducible first|apply XAnd.mk|exact trivial)|(exact zm.mk rfl rfl)|fail
   conv=>whnf
   repeat' ((with_reducible refine XInt.a ?_);conv=>whnf)
   refine zq.go (j + 1) [.cells [.int .i64 10,.int .i64 (b.surveys.getD j default).lo,.int .i64 (b.surveys.getD j default).hi]] (show j + 1 <= b.surveys.length by omega) (show b.surveys.length - (j + 1) < b.surveys.length - j by omega) ?_ ⟨rfl,rfl,rfl,rfl,rfl,rfl,trivial⟩
   rw [hes,zd (q:=0) (by rw [hkm];decide),zd (q:=1) (by rw [hkm];decide),zd (q:=2) (by rw [hkm];decide),zd (q:=3) (by rw [hkm];decide),zd (q:=4) (by rw [hkm];decide),zd (q:=5) (by rw [hkm];decide),zd (q:=6) (by rw [hkm];decide),zd (q:=7) (by rw [hkm];decide),zd (q:=8) (by rw [hkm];decide),zd (q:=9) (by rw [hkm];decide),z6 hkm]
   rfl
 ·obtain rfl : j = b.surveys.length:=by omega
  refine qZ.mk' [0,1,2,3,4,5,6,7,8,9,10,11,12] rfl (by decide) ?_ rfl
  refine SelR.id (n:=13) (fun i hi=>by have : i = 0 \/ i = 1 \/ i = 2 \/ i = 3 \/ i = 4 \/ i = 5 \/ i = 6 \/ i = 7 \/ i = 8 \/ i = 9 \/ i = 10 \/ i = 11 \/ i = 12:=by omega
                                       rcases this with rfl | rfl | rfl | rfl | rfl | rfl | rfl | rfl | rfl | rfl | rfl | rfl | rfl <;> rfl) (dskS b) 0 rfl (gj b hm) (fun j x e=>by rw [Nat.zero_add,zl];exact e)
end GA
end
section
namespace GA
open Go Go.RowKit Go.Proofs
theorem slA_low {n : Nat} (xs : List Int) : (slA xs).low n = true:=lowI xs
theorem zbe {q : Int} {v : AV} : ∀ {es : List (Int × AV)},(es.map (·.1)).Nodup -> ∀ p ∈ mput q v es,p = (q,v) \/ (p ∈ es /\ p.1 ≠ q)
 | [],_,p,hp=>by simp [mput] at hp;exact .inl hp
 | (m,u) :: l,hn,p,hp=>by
   simp only [List.map_cons,List.nodup_cons] at hn
   have hp' : p ∈ (if m = q then (m,v) :: l else (m,u) :: mput q v l):=hp
   split at hp'
   ·rename_i e;subst e
    rcases List.mem_cons.1 hp' with rfl | h
    ·exact .inl rfl
    ·refine .inr ⟨List.mem_cons_of_mem _ h,fun e=>hn.1 ?_⟩
     rw [<- e];exact List.mem_map.2 ⟨p,h,rfl⟩
   ·rename_i e
    rcases List.mem_cons.1 hp' with rfl | h
    ·exact .inr ⟨List.mem_cons_self,e⟩
    ·rcases zbe hn.2 p h with h | ⟨h1,h2⟩
     ·exact .inl h
     ·exact .inr ⟨List.mem_cons_of_mem _ h1,h2⟩
theorem esS_nd (b : Bd) : ∀ j,((esS b j).map (·.1)).Nodup
 | 0=>by simp [esS]
 | j + 1=>(vE _ _ _ (esS_nd b j)).1
theorem qW (b : Bd) (hm : ∀ s ∈ b.surveys,0 <= s.m /\ s.m <= 10) : ∀ j,j <= b.surveys.length -> ∀ p ∈ esS b j,0 <= p.1 /\ p.1 <= 10 /\ p.2 = .gr (2 + p.1.toNat) (rowS b j p.1.toNat).length
 | 0,_,p,hp=>by simp [esS] at hp
 | j + 1,hj,p,hp=>by
   have h0:=hm _ (zn (xs:=b.surveys) (i:=j) (d:=default) (by omega))
   rcases zbe (esS_nd b j) p hp with rfl | ⟨h1,h2⟩
   ·exact ⟨h0.1,h0.2,rfl⟩
   ·obtain ⟨h3,h4,h5⟩:=qW b hm j (by omega) p h1
    refine ⟨h3,h4,?_⟩
    rw [h5,k6,if_neg (by omega)]
def rowT (b : Bd) (k : Nat) : List Int:=rowS b b.surveys.length k
def keyS (b : Bd) : List Int:=(esS b b.surveys.length).map (·.1)
def q8 (b : Bd) : List AV:=(keyS b).map fun k=>slA (rowT b k.toNat)
def dskC (b : Bd) : List AV:=bedC b ++ [.im (keyS b) (q8 b)]
def dskA (b : Bd) : AV:=.pim (dskC b)
theorem rowsS_low {n : Nat} (b : Bd) : lowL n (q8 b) = true:=zT (fun _=>slA_low _) _
theorem lowDk1 {n : Nat} (b : Bd) : lowL n (dskC b) = true:=by simp only [dskC,bedC,List.cons_append,List.nil_append,lowL,AV.low,kJ,js,rowsS_low];rfl
theorem dskL {n : Nat} (b : Bd) : (dskA b).low n = true:=lowDk1 b
structure BdOk (b : Bd) : Prop extends BedOk b where
 s1 : b.surveys.length <= 8
 su : ∀ s ∈ b.surveys,0 <= s.m /\ s.m <= b.months.length /\ 0 <= s.lo /\ s.lo <= s.hi /\ s.hi <= b.room
theorem BdOk.sm {b : Bd} (o : BdOk b) : ∀ s ∈ b.surveys,0 <= s.m /\ s.m <= 10:=fun s hs=>by have:=o.su s hs;have:=o.m2;omega
theorem yy (b : Bd) : bedE b = 0 ↔ BdOk b:=by
 unfold bedE
 constructor
 ·intro h
  split at h;· cases h
  split at h;· cases h
  split at h;· cases h
  split at h;· cases h
  split at h;· cases h
  rename_i h1 h2 h3 h4 h5
  simp only [Bool.not_eq_false,not_or,zz,List.all_eq_true,moR,yX,Bool.and_eq_true,suR1,suR2] at h1 h2 h3 h4 h5
  exact ⟨⟨h1.1,h1.2,by omega,by omega,h3.1.1,h3.1.2,h3.2.1.1,h3.2.1.2,fun m hm=>by have:=h3.2.2 m hm;omega⟩,by omega,fun s hs=>by have:=h4 s hs;have:=h5 s hs;omega⟩
 ·intro o
  have h1:=o.r1;have h2:=o.r2;have h3:=o.m1;have h4:=o.m2;have h5:=o.f1;have h6:=o.f2;have h7:=o.u1;have h8:=o.u2;have h9:=o.s1
  have hm : b.months.all (moR b) = true:=List.all_eq_true.2 fun m hm=>by
   have:=o.mo m hm
   simp only [moR,yX,Bool.and_eq_true,zz];omega
  have hs1 : b.surveys.all (suR1 b) = true:=List.all_eq_true.2 fun m hm=>by
   have:=o.su m hm
   simp only [suR1,yX,Bool.and_eq_true,zz];omega
  have hs2 : b.surveys.all (suR2 b) = true:=List.all_eq_true.2 fun m hm=>by
   have:=o.su m hm
   simp only [suR2,zz];omega
  rw [if_neg (by rw [zz.2 ⟨h1,h2⟩];simp),if_neg (by rw [zz.2 ⟨by omega,by omega⟩];simp;omega),if_neg (by rw [zz.2 ⟨h5,h6⟩,zz.2 ⟨h7,h8⟩,hm];simp),if_neg (by rw [hs1];simp),if_neg (by rw [hs2];simp)]
theorem dskOne (b : Bd) : ∀ x ∈ dskC b,x.one = true:=by simp [dskC,bedC,AV.one]
theorem zal (P : Program) {H : List Blk} (f : Int -> AV) : ∀ (es : List (Int × AV)),(∀ p ∈ es,Froz P H p.2 (f p.1)) -> zU P H (es.map (·.2)) ((es.map (·.1)).map f)
 | [],_=>.nil
 | p :: l,h=>.cons (h p List.mem_cons_self) (zal P f l fun q hq=>h q (List.mem_cons_of_mem _ hq))
theorem zU.bedD {P : Program} {H : List Blk} {b : Bd} {x y : AV} (h : Froz P H x y) : zU P H (bedC b ++ [x]) (bedC b ++ [y]):=
 .cons (.low rfl) (.cons (.low rfl) (.cons (.low rfl) (.cons (.low (kJ _)) (.cons (.low (js _)) (.cons h .nil)))))
theorem fm (b : Bd) (ok : BdOk b) : Comp Tryz.prog 327 [bedA b] (.tup [dskA b,.int .i64 0]):=by
 refine (wO b ((yy b).2 ok) ok.m2 ok.s1 ok.sm).comp ?_
 refine Froz.tup (.cons (Froz.ptr rfl (dskOne b) ?_) (.cons (.low rfl) .nil))
 refine zU.bedD (Froz.mp rfl (zal _ (fun k=>slA (rowT b k.toNat)) _ fun p hp=>?_))
 obtain ⟨h1,h2,h3⟩:=qW b ok.sm _ (Nat.le_refl _) p hp
 rw [h3]
 obtain ⟨k,hk,hk2⟩ : ∃ k : Nat,k <= 10 /\ p.1.toNat = k:=⟨p.1.toNat,by omega,rfl⟩
 rw [hk2]
 have hkk : k = 0 \/ k = 1 \/ k = 2 \/ k = 3 \/ k = 4 \/ k = 5 \/ k = 6 \/ k = 7 \/ k = 8 \/ k = 9 \/ k = 10:=by omega
 rcases hkk with rfl | rfl | rfl | rfl | rfl | rfl | rfl | rfl | rfl | rfl | rfl <;> exact Froz.grow rfl (List.length_map _) (lowI _)
theorem gD (b : Bd) (h1 : b.months.length <= 100000) (h2 : b.surveys.length <= 100000) (hE : bedE b ≠ 0) : Comp Tryz.prog 327 [bedA b] (.tup [.nilp,.int .i64 (bedE b)]):=by
 have hc:=ww b h1 h2
 generalize bedE b = e at hc hE
 refine Comp.body (T:=tab) (res:=[.tmp 2,.tmp 3]) za [] Tryz.func327 rfl (by kernel_rfl) Tryz.ntmps327 rfl (by simp only [List.length_cons,List.length_nil];decide) (by simp only [lowL,bedL];rfl) ?_;conv=>whnf
 repeat' first|((with_reducible first|refine XBr.y2 fun h=>?_|refine XBr.n2 fun h=>?_|refine XBr.bne (fun h=>?_) fun h=>?_) <;> conv=>whnf)|((refine zf.ret hc ?_);conv=>whnf)|fail
 exact ⟨.low rfl⟩
def moB (b : Bd) (m : Nat) : Mo:=b.months.getD m default
def hiR (b : Bd) (m n : Nat) : Int:=kQ b.room (moB b m).g n (moB b m).ph (moB b m).tl - (moB b m).r
def loR (b : Bd) (m n : Nat) : Nat:=(max 0 (lieR b m n - (moB b m).r)).toNat
def lvF (c : Nat) (hi : Int) : List Nat:=List.range' c (hi + 1 - c).toNat
def lvL (b : Bd) (m n : Nat) : List Nat:=lvF (loR b m n) (hiR b m n)
theorem BedOk.mo' {b : Bd} (o : BedOk b) {m : Nat} (h : m < b.months.length) : 0 <= (moB b m).g /\ (moB b m).g <= 100 /\ 0 <= (moB b m).r /\ (moB b m).r <= b.room /\ 0 <= (moB b m).pl /\ (moB b m).pl <= (moB b m).ph /\ (moB b m).ph <= 60 /\ 0 <= (moB b m).tl /\ (moB b m).tl <= (moB b m).th /\ (moB b m).th <= 60:=o.mo _ (zn (d:=default) h)
end GA
end
section
namespace GA
open Go Go.RowKit Go.Proofs
structure BdK (b : Bd) : Prop extends BedOk b where
 s9 : b.surveys.length <= 9
 su : ∀ s ∈ b.surveys,0 <= s.m /\ s.m <= b.months.length /\ 0 <= s.lo /\ s.lo <= s.hi /\ s.hi <= b.room
theorem BdOk.k {b : Bd} (o : BdOk b) : BdK b:=⟨o.toBedOk,by have:=o.s1;omega,o.su⟩
instance {b : Bd} : Coe (BdOk b) (BdK b):=⟨BdOk.k⟩
theorem zbs (x : Int) (g : FuncId) (fs : List AV) (p : Int -> Bool) (hl : lowL 0 fs = true) (hp : Comp Tryz.prog g (fs ++ [.int .i64 x]) (.bool (p x))) :
  Comp Tryz.prog 440 [.int .i64 x,.pim [.bf g fs]] (.bool (!p x)):=by
 refine Comp.body (T:=tab) (res:=[.tmp 3]) za [] Tryz.func440 rfl (by kernel_rfl) Tryz.ntmps440 rfl (by simp only [List.length_cons,List.length_nil];decide) (by simp only [lowL,AV.low,hl];rfl) ?_;conv=>whnf
 refine zf.ret hp ?_
 conv=>whnf
 exact XOut.bool rfl
theorem fe (nl : Bool) (xs : List Int) (g : FuncId) (fs : List AV) (p : Int -> Bool) (hl : lowL 0 fs = true) (hx : xs.length <= 100000) (hp : ∀ x ∈ xs,Comp Tryz.prog g (fs ++ [.int .i64 x]) (.bool (p x))) :
  Comp Tryz.prog 420 [.sl nl (ints xs),.bf g fs] (.bool (xs.all p)):=by
 refine Comp.body (T:=tab) (res:=[.tmp 4]) za [] Tryz.func420 rfl (by kernel_rfl) Tryz.ntmps420 rfl (by simp only [List.length_cons,List.length_nil];decide) (by simp only [lowL,AV.low,lowI,hl];rfl) ?_;conv=>whnf
 refine zf.ret (contf_int nl xs 440 [.pim [.bf g fs]] (fun x=>!p x) (by simp only [lowL,AV.low,hl];rfl) hx fun x hm=>zbs x g fs p hl (hp x hm)) ?_
 conv=>whnf
 refine XOut.bool ?_
 rw [List.not_any_eq_all_not];simp
structure Flt (b : Bd) (g : FuncId) (caps : List AV) (p : Nat -> Bool) : Prop where
 lo : lowL 0 caps = true
 c : ∀ i,i < b.surveys.length -> Comp Tryz.prog g (natA i :: caps) (.bool (p i))
def suB (b : Bd) (i : Nat) : Su:=b.surveys.getD i default
def agB (b : Bd) (p : Nat -> Bool) (m n : Nat) : Bool:=(rowT b m).all fun i=>!p i.toNat || inZ n (suB b i.toNat).lo (suB b i.toNat).hi
def ahB (b : Bd) (p : Nat -> Bool) : Nat -> Nat -> Bool
 | 0,n=>agB b p b.months.length n
 | k + 1,n=>(lvL b (b.months.length - (k + 1)) n).any (ahB b p k) && agB b p (b.months.length - (k + 1)) n
def ahF (b : Bd) (p : Nat -> Bool) (m n : Nat) : Bool:=decide ((n : Int) <= b.room) && ahB b p (b.months.length - m) n
def AhI (b : Bd) (p : Nat -> Bool) (k n : Nat) (F : Nat -> Nat -> Bool) : Prop:=
 ∀ i,i <= b.months.length -> ∀ j,j < 121 -> F i j = if b.months.length < i + k then ahF b p i j else if i + k = b.months.length then decide (j < n) && ahB b p k j else false
theorem AhI.put {b : Bd} {p : Nat -> Bool} {k n : Nat} {F : Nat -> Nat -> Bool} (h : AhI b p k n F) (hk : k <= b.months.length) {v : Bool} (hv : v = ahB b p k n) : AhI b p k (n + 1) (updM F (b.months.length - k) n v):=by
 intro i hi j hj
 unfold updM
 by_cases h1 : i = b.months.length - k /\ j = n
 ·rw [if_pos h1,if_neg (by omega),if_pos (by omega),h1.2,hv];simp
 ·rw [if_neg h1,h i hi j hj]
  by_cases h2 : b.months.length < i + k
  ·rw [if_pos h2,if_pos h2]
  ·rw [if_neg h2,if_neg h2]
   by_cases h3 : i + k = b.months.length
   ·rw [if_pos h3,if_pos h3]
    have : j ≠ n:=fun e=>h1 ⟨by omega,e⟩
    rw [show decide (j < n + 1) = decide (j < n) by rw [decide_eq_decide];omega]
   ·rw [if_neg h3,if_neg h3]
theorem AhI.next {b : Bd} {p : Nat -> Bool} {k n : Nat} {F : Nat -> Nat -> Bool} (h : AhI b p k n F) (hn : (n : Int) = b.room + 1) : AhI b p (k + 1) 0 F:=by
 intro i hi j hj
 rw [h i hi j hj]
 by_cases h2 : b.months.length < i + k
 ·rw [if_pos h2,if_pos (by omega)]
 ·rw [if_neg h2]
  by_cases h3 : i + k = b.months.length
  ·rw [if_pos h3,if_pos (by omega)]
   unfold ahF
   rw [show b.months.length - i = k by omega,show decide (j < n) = decide ((j : Int) <= b.room) by rw [decide_eq_decide];omega]
  ·rw [if_neg h3,if_neg (by omega)]
   split
   ·simp
   ·rfl
end GA
end
section
namespace GA
open Go Go.RowKit Go.Proofs
def cnB (b : Bd) (p : Nat -> Bool) : Nat -> Nat -> Bool
 | 0,n=>ahF b p 0 n && inZ n (b.first - b.unsure) (b.first + b.unsure)
 | m + 1,k=>(List.range 121).any (fun n=>cnB b p m n && (lvL b m n).contains k) && ahF b p (m + 1) k
def CnI (b : Bd) (p : Nat -> Bool) (m n : Nat) (F : Nat -> Nat -> Bool) : Prop:=
 ∀ i,i <= b.months.length -> ∀ j,j < 121 -> F i j = if i <= m then cnB b p i j else if i = m + 1 then (List.range n).any (fun q=>cnB b p m q && (lvL b m q).contains j) && ahF b p i j else false
theorem CnI.next {b : Bd} {p : Nat -> Bool} {m : Nat} {F : Nat -> Nat -> Bool} (h : CnI b p m 121 F) : CnI b p (m + 1) 0 F:=by
 intro i hi j hj
 rw [h i hi j hj]
 by_cases h1 : i <= m
 ·rw [if_pos h1,if_pos (by omega)]
 ·rw [if_neg h1]
  by_cases h2 : i = m + 1
  ·subst h2;rw [if_pos rfl,if_pos (Nat.le_refl _),cnB]
  ·rw [if_neg h2,if_neg (by omega)]
   split
   ·simp
   ·rfl
theorem fo (G : Nat -> Bool) (r : Nat) : ∀ (l : List Nat) (F : Nat -> Nat -> Bool) (i j : Nat),l.foldl (fun F c=>updM F r c (G c)) F i j = if i = r /\ l.contains j = true then G j else F i j
 | [],F,i,j=>by simp
 | c :: l,F,i,j=>by
   rw [List.foldl_cons,fo G r l]
   unfold updM
   simp only [List.contains_cons]
   by_cases h1 : i = r
   ·by_cases h2 : l.contains j = true
    ·rw [if_pos ⟨h1,h2⟩,if_pos ⟨h1,by rw [h2,Bool.or_true]⟩]
    ·rw [if_neg (fun e=>h2 e.2)]
     by_cases h3 : j = c
     ·rw [if_pos ⟨h1,h3⟩,if_pos ⟨h1,by rw [h3];simp⟩,h3]
     ·rw [if_neg (fun e=>h3 e.2),if_neg (fun e=>h3 (by have:=e.2;rw [Bool.eq_false_iff.2 h2,Bool.or_false] at this;simpa using this))]
   ·rw [if_neg (fun e=>h1 e.1),if_neg (fun e=>h1 e.1),if_neg (fun e=>h1 e.1)]
theorem CnI.step {b : Bd} {p : Nat -> Bool} {m n : Nat} {F : Nat -> Nat -> Bool} (h : CnI b p m n F) : CnI b p m (n + 1) (if cnB b p m n = true then (lvL b m n).foldl (fun F c=>updM F (m + 1) c (ahF b p (m + 1) c)) F else F):=by
 intro i hi j hj
 have h0:=h i hi j hj
 rw [List.range_succ,List.any_append,List.any_cons,List.any_nil,Bool.or_false]
 by_cases hc : cnB b p m n = true
 ·rw [if_pos hc,fo,hc,Bool.true_and]
  by_cases h1 : i = m + 1
  ·subst h1
   rw [if_neg (show ¬ m + 1 <= m by omega),if_pos rfl] at h0 ⊢
   by_cases h2 : (lvL b m n).contains j = true
   ·rw [if_pos ⟨rfl,h2⟩,h2,Bool.or_true,Bool.true_and]
   ·rw [if_neg (fun e=>h2 e.2),h0,Bool.eq_false_iff.2 h2,Bool.or_false]
  ·rw [if_neg (fun e=>h1 e.1),h0]
   by_cases h2 : i <= m
   ·rw [if_pos h2,if_pos h2]
   ·rw [if_neg h2,if_neg h2,if_neg h1,if_neg h1]
 ·rw [if_neg hc,Bool.eq_false_iff.2 hc,Bool.false_and,Bool.or_false,h0]
end GA
end
section
namespace GA
open Go Go.RowKit Go.Proofs
def plMo (b : Bd) (plan : List Int) (j i : Nat) : Mo:=if i < j then { moB b i with r:=plan.getD i 0 } else moB b i
def zK (b : Bd) (plan : List Int) : Bd:={ b with nlm:=false,months:=vecF b.months.length (plMo b plan b.months.length) }
theorem fh {b c : Bd} (h : b.surveys = c.surveys) : ∀ j,esS b j = esS c j
 | 0=>rfl
 | j + 1=>by
   have hr : ∀ j k,rowS b j k = rowS c j k:=fun j k=>by unfold rowS;rw [h]
   show mput _ _ (esS b j) = mput _ _ (esS c j)
   rw [fh h j,h,hr]
theorem dsk_congr {b c : Bd} (h : b.surveys = c.surveys) : keyS b = keyS c /\ q8 b = q8 c:=by
 have hk : keyS b = keyS c:=by unfold keyS;rw [fh h,h]
 refine ⟨hk,?_⟩
 unfold q8
 rw [hk]
 have : rowT b = rowT c:=by funext k;unfold rowT rowS;rw [h]
 rw [this]
theorem yc (b : Bd) (plan : List Int) : (zK b plan).months.length = b.months.length:=kF _ _
theorem vK {b : Bd} {plan : List Int} {i : Nat} (hi : i < b.months.length) : moB (zK b plan) i = { moB b i with r:=plan.getD i 0 }:=by
 unfold moB
 show (vecF b.months.length _).getD i default = _
 rw [vecF_get _ hi];unfold plMo;rw [if_pos hi];rfl
theorem zba {b : Bd} (ok : BdOk b) {plan : List Int} (hp : ∀ x ∈ plan,0 <= x /\ x <= b.room) (hl : plan.length = b.months.length) : BdOk (zK b plan):=by
 refine ⟨⟨ok.r1,ok.r2,?_,?_,ok.f1,ok.f2,ok.u1,ok.u2,fun m hm=>?_⟩,ok.s1,fun s hs=>?_⟩
 ·rw [yc];exact ok.m1
 ·rw [yc];exact ok.m2
 ·obtain ⟨i,hi,rfl⟩:=vecF_mem.1 hm
  unfold plMo
  rw [if_pos hi]
  have h1:=ok.mo' hi
  have h2:=hp _ (zn (xs:=plan) (d:=0) (i:=i) (by omega))
  exact ⟨h1.1,h1.2.1,h2.1,h2.2,h1.2.2.2.2⟩
 ·rw [yc];exact ok.su s hs
def jJ (b : Bd) (plan : List Int) : Int:=if bedE b ≠ 0 then bedE b else if (plan.length : Int) ≠ b.months.length then 2 else if plan.all (fun x=>inZ x 0 b.room) = false then 3 else 0
theorem fy {b : Bd} {plan : List Int} : jJ b plan = 0 ↔ BdOk b /\ plan.length = b.months.length /\ ∀ x ∈ plan,0 <= x /\ x <= b.room:=by
 unfold jJ
 constructor
 ·intro h
  split at h
  ·rename_i h1;exact absurd h h1
  ·split at h;· cases h
   split at h;· cases h
   rename_i h1 h2 h3
   rw [Bool.not_eq_false,List.all_eq_true] at h3
   exact ⟨(yy b).1 (by omega),by omega,fun x hx=>zz.1 (h3 x hx)⟩
 ·rintro ⟨h1,h2,h3⟩
  rw [if_neg (fun h=>h ((yy b).2 h1)),if_neg (by omega),if_neg (by rw [List.all_eq_true.2 fun x hx=>zz.2 (h3 x hx)];simp)]
theorem zP.moR {n e' o w : Nat} {k : List AV -> Prop} {N : Nat} {F : Nat -> Mo} {v : Int} (e : Nat) (he : e = e') (h1 : n = N) (h2 : e < N) (ho : o = 1) (hw : w = 6)
  (h : k ((vecF N (updV F e { F e with r:=v })).map moA)) : zP ((vecF N F).map moA) n e' o w [.int .i64 v] k:=by
 subst he;subst h1;subst ho;subst hw
 have hg : ((vecF n F).map moA).getD e default = moA (F e):=by
  rw [List.getD_eq_getElem?_getD,List.getElem?_map,yf,if_pos h2];rfl
 refine ⟨by rw [List.length_map,kF],h2,by simp,by rw [hg];rfl,?_⟩
 rw [hg]
 show k (((vecF n F).map moA).set e (moA { F e with r:=v }))
 rw [<- List.map_set,wJ];exact h
theorem dskS_ren0 (b : Bd) (hm : ∀ s ∈ b.surveys,0 <= s.m /\ s.m <= 10) : (dskS b).map (Blk.ren (([] : List Blk).length + ·)) = dskS b:=by
 have : ∀ x ∈ dskS b,Blk.ren (([] : List Blk).length + ·) x = id x:=fun x hx=>Blk.ren_low (n:=13) (fun i _=>Nat.zero_add i) (gj b hm x hx)
 rw [List.map_congr_left this,List.map_id]
theorem zbq (b : Bd) : b.months = vecF b.months.length (moB b):=by
 apply List.ext_getElem?;intro i
 rw [yf]
 by_cases h : i < b.months.length
 ·rw [if_pos h,List.getElem?_eq_getElem h];unfold moB;rw [List.getD_eq_getElem?_getD,List.getElem?_eq_getElem h];rfl
 ·rw [if_neg h,List.getElem?_eq_none (by omega)]
theorem zU.rows {b : Bd} {H : List Blk} (hm : ∀ s ∈ b.surveys,0 <= s.m /\ s.m <= 10) (h : ∀ k,k <= 10 -> lget H (2 + k) = some (rowB b b.surveys.length k)) : zU Tryz.prog H ((esS b b.surveys.length).map (·.2)) (q8 b):=by
 refine zal _ (fun k=>slA (rowT b k.toNat)) _ fun p hp=>?_
 obtain ⟨h1,h2,h3⟩:=qW b hm _ (Nat.le_refl _) p hp
 rw [h3]
 exact Froz.grow (h _ (by omega)) (List.length_map _) (lowI _)
set_option maxHeartbeats 1000000 in
theorem planned_c (b : Bd) (ok : BdOk b) (nl : Bool) (plan : List Int) (hl : plan.length = b.months.length) (hp : ∀ x ∈ plan,0 <= x /\ x <= b.room) : Comp Tryz.prog 394 [bedA b,.sl nl (ints plan)] (.tup [dskA (zK b plan),.int .i64 0]):=by
 have m1:=ok.m1
 have m2:=ok.m2
 have e1 : ((b.months.map moA).length : Int) = b.months.length:=by rw [List.length_map]
 have e2 : ((ints plan).length : Int) = b.months.length:=by rw [jI];omega
 have hop:=wO b ((yy b).2 ok) ok.m2 ok.s1 ok.sm
 have hev:=fe nl plan 328 [bedA b] (fun x=>inZ x 0 b.room) (by simp only [lowL,bedL];rfl) (by omega) fun x _=>z0 b x
 rw [List.all_eq_true.2 fun x hx=>zz.2 (hp x hx)] at hev
 refine Comp.body (T:=tab) (res:=[.tmp 4,.tmp 5]) za [] Tryz.func394 rfl (by kernel_rfl) Tryz.ntmps394 rfl (by simp only [List.length_cons,List.length_nil];decide) (by simp only [lowL,bedL,AV.low,lowI];rfl) ?_;conv=>whnf
 refine zf.give hop ?_
 rw [dskS_ren0 b ok.sm]
 conv=>whnf
 repeat' first|((with_reducible first|apply XBr.tt|refine XBr.y2 fun h=>?_|refine XBr.n2 fun h=>?_|refine XBr.bne (fun h=>?_) fun h=>?_) <;> conv=>whnf) | with_reducible apply XBr.not|((first|refine zj.a ?_|refine zf.ret hev ?_|refine zj.mk (wideMo _) ?_|refine zj.mk ⟨rfl,by rw [List.length_replicate]⟩ ?_|refine wc.mk ?_);conv=>whnf)|fail
 have hv0 : b.months.map moA = (vecF b.months.length (plMo b plan 0)).map moA:=by
  have : vecF b.months.length (plMo b plan 0) = vecF b.months.length (moB b):=kB fun i _=>by unfold plMo;rw [if_neg (by omega)]
  rw [this,<- zbq]
 refine Walk.loopK za [] [(4,_),(5,_),(6,.ptr 1 0),(8,.gr 13 b.months.length),(41,_),(42,.int .i64 b.months.length)] ⟨rfl,rfl,rfl,?_,rfl,congrArg (fun z=>some (AV.int .i64 z)) e2,trivial⟩ (fun j : Nat=>j <= b.months.length) (fun j=>[(43,natA j)]) (fun j=>dskS b ++ [.grow 330 false ((vecF b.months.length (plMo b plan j)).map moA)]) (fun j=>b.months.length - j) 0 (Nat.zero_le _) ?_ ⟨rfl,trivial⟩ ?_
 ·show some (AV.gr 13 _) = _
  rw [e1,Int.toNat_natCast]
 ·show dskS b ++ [_] = dskS b ++ [Blk.grow _ false (splice (List.replicate _ _) 0 _)]
  rw [<- hv0]
  have hz : splice (List.replicate (((b.months.map moA).length : Int)).toNat (AV.agg [.int .i64 0,.int .i64 0,.int .i64 0,.int .i64 0,.int .i64 0,.int .i64 0])) 0 ((b.months.map moA).take (((b.months.map moA).length : Int)).toNat) = b.months.map moA:=by
   rw [Int.toNat_natCast,List.take_length]
   unfold splice
   simp
  rw [hz]
 intro j hj
 have hpj : j < b.months.length -> vecF b.months.length (plMo b plan (j + 1)) = vecF b.months.length (updV (plMo b plan j) j { plMo b plan j j with r:=plan.getD j 0 }):=fun hj=>kB fun i hi=>by
  unfold updV plMo
  by_cases h : i = j
  ·subst h;rw [if_pos rfl,if_pos (by omega),if_neg (by omega)]
  ·rw [if_neg h]
   by_cases h2 : i < j
   ·rw [if_pos h2,if_pos (by omega)]
   ·rw [if_neg h2,if_neg (by omega)]
 conv=>whnf
 repeat' first|((with_reducible first|refine XBr.y fun h=>?_|refine XBr.n fun h=>?_|refine XBr.dec (fun h=>?_) fun h=>?_|refine XInt.a ?_) <;> conv=>whnf)|((first|refine XIx.a ?_|refine zj.mk ⟨by simp only [List.length_map,kF],rfl,by omega,by omega⟩ ?_|refine zP.moR j (by omega) rfl (by omega) rfl rfl ?_);conv=>whnf)|fail
 ·refine zu.go (j + 1) (by omega) (by omega) ?_ ⟨rfl,rfl,rfl,rfl,rfl,rfl,rfl,trivial⟩
  rw [hpj (by omega)];rfl
 ·obtain rfl : j = b.months.length:=by omega
  obtain ⟨hk1,hk2⟩:=dsk_congr (b:=zK b plan) (c:=b) rfl
  refine ⟨Froz.tup (.cons (Froz.ptr rfl (dskOne _) ?_) (.cons (.low rfl) .nil))⟩
  show zU _ _ _ (bedC (zK b plan) ++ [.im (keyS (zK b plan)) (q8 (zK b plan))])
  rw [hk1,hk2]
  refine .cons (.low rfl) (.cons (.low rfl) (.cons (.low rfl) (.cons (Froz.grow rfl (by rw [List.length_map];exact yc b plan) (kJ _)) (.cons (.low (js _)) (.cons (Froz.mp rfl ?_) .nil)))))
  refine zU.rows ok.sm fun k hk=>?_
  have hkk : k = 0 \/ k = 1 \/ k = 2 \/ k = 3 \/ k = 4 \/ k = 5 \/ k = 6 \/ k = 7 \/ k = 8 \/ k = 9 \/ k = 10:=by omega
  rcases hkk with rfl | rfl | rfl | rfl | rfl | rfl | rfl | rfl | rfl | rfl | rfl <;> rfl
theorem zbl (b : Bd) (nl : Bool) (plan : List Int) (hm : b.months.length <= 100000) (hs : b.surveys.length <= 100000) (hl : plan.length <= 100000) (hE : jJ b plan ≠ 0) : Comp Tryz.prog 394 [bedA b,.sl nl (ints plan)] (.tup [.nilp,.int .i64 (jJ b plan)]):=by
 have e1 : ((b.months.map moA).length : Int) = b.months.length:=by rw [List.length_map]
 have e2 : ((ints plan).length : Int) = plan.length:=by rw [jI]
 have hev:=fe nl plan 328 [bedA b] (fun x=>inZ x 0 b.room) (by simp only [lowL,bedL];rfl) (by omega) fun x _=>z0 b x
 by_cases hb : bedE b = 0
 ·have hop:=fm b ((yy b).1 hb)
  unfold jJ at hE ⊢
  rw [if_neg (fun h=>h hb)] at hE ⊢
  generalize plan.all (fun x=>inZ x 0 b.room) = r at hev hE
  refine Comp.body (T:=tab) (res:=[.tmp 4,.tmp 5]) za [] Tryz.func394 rfl (by kernel_rfl) Tryz.ntmps394 rfl (by simp only [List.length_cons,List.length_nil];decide) (by simp only [lowL,bedL,AV.low,lowI];rfl) ?_;conv=>whnf
  repeat' first|((with_reducible first|refine XBr.y2 fun h=>?_|refine XBr.n2 fun h=>?_|refine XBr.bne (fun h=>?_) fun h=>?_) <;> conv=>whnf) | with_reducible apply XBr.not|((first|refine zj.a ?_|refine zf.ret hop ?_|refine zf.ret hev ?_);conv=>whnf)|((with_reducible refine XBr.mk' (fun h=>?_) fun h=>?_) <;> conv=>whnf)|fail
  ·rw [e1,e2] at h
   rw [if_pos h];exact ⟨.low rfl⟩
  ·rw [e1,e2] at *
   exfalso;simp [*] at hE
  ·rw [e1,e2] at *
   rw [if_neg (by simp [*]),if_pos h];exact ⟨.low rfl⟩
 ·have hop:=gD b hm hs hb
  have hE2 : jJ b plan = bedE b:=by unfold jJ;rw [if_pos hb]
  rw [hE2]
  generalize bedE b = e at hop hb
  refine Comp.body (T:=tab) (res:=[.tmp 4,.tmp 5]) za [] Tryz.func394 rfl (by kernel_rfl) Tryz.ntmps394 rfl (by simp only [List.length_cons,List.length_nil];decide) (by simp only [lowL,bedL,AV.low,lowI];rfl) ?_;conv=>whnf
  repeat' first|((with_reducible first|refine XBr.y2 fun h=>?_|refine XBr.n2 fun h=>?_|refine XBr.bne (fun h=>?_) fun h=>?_) <;> conv=>whnf)|((refine zf.ret hop ?_);conv=>whnf)|fail
  exact ⟨.low rfl⟩
def endW (b : Bd) : Nat -> Nat -> Int
 | 0,n=>n
 | k + 1,n=>if lieR b (b.months.length - (k + 1)) n - (moB b (b.months.length - (k + 1))).r < 0 then lieR b (b.months.length - (k + 1)) n - (moB b (b.months.length - (k + 1))).r else endW b k (lieR b (b.months.length - (k + 1)) n - (moB b (b.months.length - (k + 1))).r).toNat
def endR (b : Bd) : Int:=endW b b.months.length (zS b).toNat
theorem end_c (b : Bd) (ok : BedOk b) : Comp Tryz.prog 395 [dskA b] (.int .i64 (endR b)):=by
 have m1:=ok.m1
 have m2:=ok.m2
 have r1:=ok.r1
 have r2:=ok.r2
 have e1 : ((b.months.map moA).length : Int) = b.months.length:=by rw [List.length_map]
 have hle:=least_c b ok.f1 (by have:=ok.f2;omega) ok.u1 (by have:=ok.u2;omega)
 obtain ⟨a0,ha0⟩ : ∃ a0 : Nat,zS b = a0:=⟨(zS b).toNat,by unfold zS;omega⟩
 have ha1 : (a0 : Int) <= b.room:=by rw [<- ha0];unfold zS;have:=ok.f2;have:=ok.u1;omega
 unfold endR
 rw [ha0,Int.toNat_natCast]
 rw [ha0] at hle
 refine Comp.body (T:=tab) (res:=[.tmp 2]) za [] Tryz.func395 rfl (by kernel_rfl) Tryz.ntmps395 rfl (by simp only [List.length_cons,List.length_nil];decide) (by simp only [lowL,dskL];rfl) ?_;conv=>whnf
 repeat' ((refine zf.ret hle ?_);conv=>whnf)
 refine Walk.loopGK za [] [(0,_),(15,_),(16,_)] ⟨rfl,rfl,rfl,trivial⟩ (fun q : Nat × Nat=>q.1 <= b.months.length /\ (q.2 : Int) <= b.room /\ endW b (b.months.length - q.1) q.2 = endW b b.months.length a0) (fun q=>[(3,natA q.2),(17,natA q.1)]) (fun _=>[]) (fun q=>b.months.length - q.1) (0,a0) ⟨Nat.zero_le _,ha1,rfl⟩ rfl ⟨rfl,rfl,trivial⟩ ?_ (fun _ _=>Nat.le_refl _) ?_
 ·intro q _
  refine ⟨by simp,fun z hz=>?_⟩
  simp only [List.cons_append,List.nil_append,List.mem_cons,List.not_mem_nil,or_false] at hz
  rcases hz with rfl | rfl | rfl | rfl | rfl <;> first|exact dskL b|exact kJ _ | rfl
 rintro ⟨m,n⟩ ⟨hm,hn,he⟩
 dsimp only at hm hn he ⊢
 have hgc:=fun (h : m < b.months.length)=>zae b m n (moB b m).pl (moB b m).th h (by omega) (by omega) (ok.mo' h).1 (ok.mo' h).2.1 (by omega) (by omega) (by have:=ok.mo' h;omega) (by have:=ok.mo' h;omega) (by have:=ok.mo' h;omega) (by have:=ok.mo' h;omega)
 change ∀ h : m < b.months.length,Comp Tryz.prog _ _ (.int .i64 (lieR b m n)) at hgc
 have hlb:=fun (h : m < b.months.length)=>qM ok (j:=m) (n:=n) h
 have hmo:=fun (h : m < b.months.length)=>ok.mo' h
 conv=>whnf
 by_cases hlt : m < b.months.length
 ·have hgc:=hgc hlt
  have hlb:=hlb hlt
  have hmo:=hmo hlt
  have hst : endW b (b.months.length - m) n = if lieR b m n - (moB b m).r < 0 then lieR b m n - (moB b m).r else endW b (b.months.length - (m + 1)) (lieR b m n - (moB b m).r).toNat:=by
   obtain ⟨k,hk⟩ : ∃ k,b.months.length - m = k + 1:=⟨b.months.length - m - 1,by omega⟩
   rw [hk,endW,show b.months.length - (k + 1) = m by omega,show b.months.length - (m + 1) = k by omega]
  rw [hst] at he
  repeat' first|((with_reducible first|refine XBr.y fun h=>?_|refine XBr.n fun h=>?_|refine XBr.dec (fun h=>?_) fun h=>?_|refine XInt.a ?_|apply Chk.go|apply ChkA.go|apply ChkF.go|apply ChkB.go|apply kC.mk) <;> conv=>whnf)|(refine XIx.a ?_;conv=>whnf)|(with_reducible first|apply XAnd.mk|exact trivial)|(exact zm.mk rfl rfl)|(apply Walk.drawN (id:=5) za zi [] [] (hsU _) [_,_,_,_,_,_,_,_,_,_,_,_,_] (by kernel_rfl) rfl)|((first|refine zf.ret (zad (moB b m)) ?_|refine zf.ret hgc ?_|refine XInt.i64 (show _ <= lieR b m n - (moB b m).r by omega) (show lieR b m n - (moB b m).r <= _ by omega) ?_);conv=>whnf)|fail
  ·rename_i h
   have h' : lieR b m n - (moB b m).r < 0:=h
   rw [if_pos h'] at he
   exact XOut.int he
  ·rename_i h
   have h' : ¬ lieR b m n - (moB b m).r < 0:=h
   rw [if_neg h'] at he
   refine zq.go (m + 1,(lieR b m n - (moB b m).r).toNat) [.cells [.int .i64 (moB b m).g,.int .i64 (moB b m).r,.int .i64 (moB b m).pl,.int .i64 (moB b m).ph,.int .i64 (moB b m).tl,.int .i64 (moB b m).th]] ⟨by dsimp only;omega,by dsimp only;omega,he⟩ (by dsimp only;omega) rfl ⟨rfl,rfl,rfl,?_,rfl,trivial⟩
   exact congrArg (fun z=>some (AV.int .i64 z)) (show lieR b m n - (moB b m).r = ((lieR b m n - (moB b m).r).toNat : Int) by omega)
 ·obtain rfl : m = b.months.length:=by omega
  rw [Nat.sub_self] at he
  repeat' ((with_reducible first|refine XBr.y fun h=>?_|refine XBr.n fun h=>?_|refine XBr.dec (fun h=>?_) fun h=>?_) <;> conv=>whnf)
  exact XOut.int he
def qY (b : Bd) (plan : List Int) (share : Int) : Bool:=decide (share <= endR (zK b plan))
def zat (b : Bd) (plan : List Int) (share : Int) : AV:=if jJ b plan ≠ 0 then .tup [.bool false,.int .i64 (jJ b plan)] else if inZ share 0 b.room = false then .tup [.bool false,.int .i64 3] else .tup [.bool (qY b plan share),.int .i64 0]
theorem keeps_c (b : Bd) (nl : Bool) (plan : List Int) (share : Int) (hm : b.months.length <= 100000) (hs : b.surveys.length <= 100000) (hl : plan.length <= 100000) : Comp Tryz.prog 329 [bedA b,.sl nl (ints plan),.int .i64 share] (zat b plan share):=by
 unfold zat
 by_cases hE : jJ b plan = 0
 ·obtain ⟨ok,h1,h2⟩:=fy.1 hE
  have hp:=planned_c b ok nl plan h1 h2
  have he:=end_c (zK b plan) (zba ok h2 h1).toBedOk
  have ha:=z0 b share
  rw [if_neg (fun h=>h hE)]
  generalize inZ share 0 b.room = r at ha
  refine Comp.body (T:=tab) (res:=[.tmp 6,.tmp 7]) za [] Tryz.func329 rfl (by kernel_rfl) Tryz.ntmps329 rfl (by simp only [List.length_cons,List.length_nil];decide) (by simp only [lowL,bedL,AV.low,lowI];rfl) ?_;conv=>whnf
  repeat' first|((with_reducible first|refine XBr.y2 fun h=>?_|refine XBr.n2 fun h=>?_|refine XBr.bne (fun h=>?_) fun h=>?_) <;> conv=>whnf) | with_reducible apply XBr.not|((first|refine zf.ret hp ?_|refine zf.ret ha ?_|refine zf.ret he ?_);conv=>whnf)|((with_reducible refine XBr.mk' (fun h=>?_) fun h=>?_) <;> conv=>whnf)|fail
  ·rename_i h
   rw [if_neg (by rw [h];simp)];exact ⟨.low rfl⟩
  ·rename_i h
   rw [if_pos h];exact ⟨.low rfl⟩
 ·have hp:=zbl b nl plan hm hs hl hE
  rw [if_pos hE]
  generalize jJ b plan = e at hp hE
  refine Comp.body (T:=tab) (res:=[.tmp 6,.tmp 7]) za [] Tryz.func329 rfl (by kernel_rfl) Tryz.ntmps329 rfl (by simp only [List.length_cons,List.length_nil];decide) (by simp only [lowL,bedL,AV.low,lowI];rfl) ?_;conv=>whnf
  repeat' first|((with_reducible first|refine XBr.y2 fun h=>?_|refine XBr.n2 fun h=>?_|refine XBr.bne (fun h=>?_) fun h=>?_) <;> conv=>whnf)|((refine zf.ret hp ?_);conv=>whnf)|fail
  exact ⟨.low rfl⟩
end GA
end
section
namespace GA
open Go Go.RowKit Go.Proofs
theorem mul64_c (k : Nat) (hk : k <= 10) : Comp Tryz.prog 422 [.int .u64 1,.int .u64 k] (.tup [.int .u64 0,.int .u64 k]):=by
 have hkk : k = 0 \/ k = 1 \/ k = 2 \/ k = 3 \/ k = 4 \/ k = 5 \/ k = 6 \/ k = 7 \/ k = 8 \/ k = 9 \/ k = 10:=by omega
 rcases hkk with rfl | rfl | rfl | rfl | rfl | rfl | rfl | rfl | rfl | rfl | rfl
 all_goals
  refine Comp.body (T:=tab) (res:=[.tmp 4,.tmp 5]) za [] Tryz.func422 rfl (by kernel_rfl) Tryz.ntmps422 rfl (by simp only [List.length_cons,List.length_nil];decide) (by rfl) ?_;conv=>whnf
  repeat' ((first|refine zj.a ?_|(with_reducible apply XInt.mk));conv=>whnf)
  exact ⟨.low rfl⟩
theorem mul_c (k : Nat) (hk : k <= 10) : Comp Tryz.prog 396 [.int .u64 1,.int .u64 k] (.tup [.int .u64 0,.int .u64 k]):=by
 refine Comp.body (T:=tab) (res:=[.tmp 4,.tmp 5]) za [] Tryz.func396 rfl (by kernel_rfl) Tryz.ntmps396 rfl (by simp only [List.length_cons,List.length_nil];decide) (by rfl) ?_;conv=>whnf
 repeat' first|((first|(with_reducible apply XBr.ff)|(refine zf.ret (mul64_c k hk) ?_));conv=>whnf)|fail
 exact ⟨.low rfl⟩
theorem XInt.u64 {x : Int} {k : AV -> Prop} (h1 : 0 <= x) (h2 : x <= 18446744073709551615) (h : k (.int .u64 x)) : XInt .u64 x k:=by
 have e : IntKind.u64.wrap x = x:=by simp only [IntKind.wrap,IntKind.bits,IntKind.signed];simp;omega
 exact ⟨by rw [e];exact h⟩
def repL (v : Int) (k c : Nat) : List Int:=List.replicate c v ++ List.replicate (k - c) 0
theorem vk (v : Int) (k c : Nat) : ints (repL v k c) = List.replicate c (.int .i64 v) ++ List.replicate (k - c) (.int .i64 0):=by
 unfold repL ints
 rw [List.map_append,List.map_replicate,List.map_replicate]
theorem repL_len {v : Int} {k c : Nat} (h : c <= k) : (repL v k c).length = k:=by unfold repL;rw [List.length_append,List.length_replicate,List.length_replicate];omega
theorem zbE {v : Int} {k c : Nat} (h : c <= k) : splice (ints (repL v k c)) c ((((ints (repL v k c)).drop 0).take c).take (k - c)) = ints (repL v k (c + min (k - c) c)):=by
 rw [vk,vk]
 have e1 : (((List.replicate c (AV.int .i64 v) ++ List.replicate (k - c) (AV.int .i64 0)).drop 0).take c).take (k - c) = List.replicate (min (k - c) c) (AV.int .i64 v):=by
  rw [List.drop_zero,List.take_left' (List.length_replicate ..),List.take_replicate]
 rw [e1]
 unfold splice
 rw [List.take_left' (List.length_replicate ..),List.length_replicate,List.drop_append,List.length_replicate,List.drop_of_length_le (by rw [List.length_replicate];omega),List.nil_append,List.drop_replicate,List.replicate_append_replicate]
 congr 2
 omega
theorem repeat_c (v : Int) (k : Nat) (h1 : 1 <= k) (hk : k <= 10) : Comp Tryz.prog 330 [.sl false [.int .i64 v],natA k] (.sl false (ints (List.replicate k v))):=by
 refine Comp.body (T:=tab) (res:=[.tmp 4]) za [] Tryz.func330 rfl (by kernel_rfl) Tryz.ntmps330 rfl (by simp only [List.length_cons,List.length_nil];decide) (by rfl) ?_;conv=>whnf
 repeat' first|((with_reducible first|apply XBr.ff|refine XBr.y fun h=>?_|refine XBr.n fun h=>?_|refine XBr.dec (fun h=>?_) fun h=>?_|refine XInt.a ?_) <;> conv=>whnf)|((first|(first|refine zj.a ?_|(with_reducible refine XInt.u64 (by omega) (by omega) ?_))|((show XInt IntKind.u64 ((1 : Nat) : Int) _);(with_reducible refine XInt.u64 (by omega) (by omega) ?_))|(refine zf.ret (mul_c k hk) ?_));conv=>whnf)|fail
 refine zj.mk ⟨rfl,by rw [List.length_replicate]⟩ ?_
 conv=>whnf
 refine wc.mk ?_
 conv=>whnf
 skip
 refine Walk.loopK za [] [(4,_),(7,.gr 0 k)] ⟨rfl,by rw [<- Int.toNat_natCast k];rfl,trivial⟩ (fun c : Nat=>1 <= c /\ c <= k) (fun c=>[(8,natA c)]) (fun c=>[.grow 3 false (ints (repL v k c))]) (fun c=>k - c) 1 ⟨Nat.le_refl 1,h1⟩ ?_ ⟨?_,trivial⟩ ?_
 ·show _ = [Blk.grow _ false (splice (List.replicate ((k : Int)).toNat (AV.int .i64 0)) 0 ([AV.int .i64 v].take ((k : Int)).toNat))]
  rw [vk,Int.toNat_natCast,List.take_of_length_le (by simpa using h1)]
  obtain ⟨d,rfl⟩ : ∃ d,k = d + 1:=⟨k - 1,by omega⟩
  rw [Nat.add_sub_cancel]
  unfold splice
  simp only [List.take_zero,List.nil_append,List.length_cons,List.length_nil,List.replicate_succ,List.drop_succ_cons,List.drop_zero,Nat.zero_add,List.replicate_zero]
 ·show some (AV.int .i64 _) = _
  rw [Int.toNat_natCast]
  refine congrArg (fun z=>some (AV.int .i64 z)) ?_
  obtain ⟨d,rfl⟩ : ∃ d,k = d + 1:=⟨k - 1,by omega⟩
  show ((min 1 (d + 1) : Nat) : Int) = _
  omega
 rintro c ⟨g1,g2⟩
 have hl:=repL_len (v:=v) g2
 have hl2 : (ints (repL v k c)).length = k:=by rw [jI,hl]
 have hsp:=zbE (v:=v) g2
 have hw : wide 1 (List.take ((c : Int) - 0).toNat (List.drop (Int.toNat 0) (ints (repL v k c)))) = true:=by
  show wide 1 (List.take _ (List.drop _ ((repL v k c).map (AV.int .i64)))) = true
  rw [<- List.map_drop,<- List.map_take];exact yx _
 have hl3 : (List.take ((c : Int) - 0).toNat (List.drop (Int.toNat 0) (ints (repL v k c)))).length = c:=by
  rw [List.length_take,List.length_drop,hl2,show Int.toNat 0 = 0 from rfl];omega
 conv=>whnf
 repeat' first|((with_reducible first|refine XBr.y fun h=>?_|refine XBr.n fun h=>?_|refine XBr.dec (fun h=>?_) fun h=>?_|refine XInt.a ?_|apply Chk.go|apply ChkA.go|apply ChkF.go|apply ChkB.go|apply kC.mk) <;> conv=>whnf)|(refine zj.a ?_;conv=>whnf)|(with_reducible first|apply XAnd.mk|exact trivial)|(exact zm.mk rfl rfl)|(apply Walk.drawN (id:=9) za zi [] [7] (hsC [_,_]) [_,_,_,_,_,_,_,_,_,_] (by kernel_rfl) rfl)|((first|refine zj.mk ⟨⟨by omega,by omega,by omega,by omega⟩,hl2,rfl⟩ ?_|refine zj.mk ⟨rfl,hl2,by omega⟩ ?_|refine wc.mk ?_);conv=>whnf)|fail
 ·refine zu.go (c + min (k - c) c) ⟨by omega,by omega⟩ (by omega) ?_ ⟨rfl,rfl,?_,trivial⟩
  ·show [Blk.grow _ false (ints (repL v k (c + min (k - c) c)))] = [Blk.grow _ false (splice (ints (repL v k c)) _ ((List.take ((c : Int) - 0).toNat (List.drop (Int.toNat 0) (ints (repL v k c)))).take ((k : Int) - c).toNat))]
   rw [<- hsp,show ((c : Int) - 0).toNat = c by omega,show ((k : Int) - c).toNat = k - c by omega]
   rfl
  ·show some (AV.int .i64 _) = _
   refine congrArg (fun z=>some (AV.int .i64 z)) ?_
   rw [hl3];omega
 ·obtain rfl : c = k:=by omega
  have e : repL v c c = List.replicate c v:=by unfold repL;rw [Nat.sub_self];exact List.append_nil _
  rw [e] at hl2 ⊢
  exact ⟨Froz.grow rfl hl2 (lowI _)⟩
def yW (b : Bd) (share : Int) : Int:=if bedE b ≠ 0 then bedE b else if inZ share 0 b.room = false then 3 else 0
theorem zaB {b : Bd} {share : Int} : yW b share = 0 ↔ BdOk b /\ 0 <= share /\ share <= b.room:=by
 unfold yW
 by_cases hb : bedE b = 0
 ·rw [if_neg (fun h=>h hb)]
  cases hi : inZ share 0 b.room
  ·rw [if_pos rfl]
   refine ⟨(fun h=>by cases h),(fun h=>?_)⟩
   rw [zz.2 h.2] at hi;cases hi
  ·rw [if_neg (by simp)]
   exact ⟨fun _=>⟨(yy b).1 hb,zz.1 hi⟩,fun _=>rfl⟩
 ·rw [if_pos hb]
  exact ⟨fun h=>absurd h hb,fun h=>(yy b).2 h.1⟩
def jS (b : Bd) (share : Int) : AV:=.tup [if bedE b = 0 then dskA b else .nilp,.int .i64 (yW b share)]
theorem bShared_c (b : Bd) (share : Int) (hm : b.months.length <= 100000) (hs : b.surveys.length <= 100000) : Comp Tryz.prog 214 [bedA b,.int .i64 share] (jS b share):=by
 unfold jS yW
 by_cases hb : bedE b = 0
 ·have ok:=(yy b).1 hb
  have ho:=fm b ok
  have ha:=z0 b share
  rw [if_pos hb,if_neg (fun h=>h hb)]
  generalize inZ share 0 b.room = r at ha
  refine Comp.body (T:=tab) (res:=[.tmp 4,.tmp 5]) za [] Tryz.func214 rfl (by kernel_rfl) Tryz.ntmps214 rfl (by simp only [List.length_cons,List.length_nil];decide) (by simp only [lowL,bedL,AV.low];rfl) ?_;conv=>whnf
  repeat' first|((with_reducible first|apply XBr.tt|refine XBr.y1 fun h=>?_|refine XBr.n1 fun h=>?_|refine XBr.beq (fun h=>?_) fun h=>?_) <;> conv=>whnf) | with_reducible apply XBr.not|((first|refine zf.ret ho ?_|refine zf.ret ha ?_);conv=>whnf)|((with_reducible refine XBr.mk' (fun h=>?_) fun h=>?_) <;> conv=>whnf)|fail
  ·rename_i h
   rw [if_neg (by rw [h];simp)];exact ⟨.low (by simp only [pack,AV.low,lowL,dskL];rfl)⟩
  ·rename_i h
   rw [if_pos h];exact ⟨.low (by simp only [pack,AV.low,lowL,dskL];rfl)⟩
 ·have ho:=gD b hm hs hb
  rw [if_neg hb,if_pos hb]
  generalize bedE b = e at ho hb
  refine Comp.body (T:=tab) (res:=[.tmp 4,.tmp 5]) za [] Tryz.func214 rfl (by kernel_rfl) Tryz.ntmps214 rfl (by simp only [List.length_cons,List.length_nil];decide) (by simp only [lowL,bedL,AV.low];rfl) ?_;conv=>whnf
  repeat' first|((with_reducible first|apply XBr.ff|refine XBr.y1 fun h=>?_|refine XBr.n1 fun h=>?_|refine XBr.beq (fun h=>?_) fun h=>?_) <;> conv=>whnf)|((refine zf.ret ho ?_);conv=>whnf)|fail
  exact ⟨.low rfl⟩
def wj (b : Bd) (share : Int) : Nat -> Int
 | 0=>-1
 | n + 1=>if qY b (List.replicate b.months.length (n : Int)) share = true then n else wj b share n
def evenA (b : Bd) (share : Int) : AV:=if yW b share ≠ 0 then .tup [.int .i64 0,.int .i64 (yW b share)] else if wj b share (b.room.toNat + 1) < 0 then .tup [.int .i64 0,.int .i64 6] else .tup [.int .i64 (wj b share (b.room.toNat + 1)),.int .i64 0]
theorem even_c (b : Bd) (share : Int) (hm : b.months.length <= 100000) (hs : b.surveys.length <= 100000) : Comp Tryz.prog 219 [bedA b,.int .i64 share] (evenA b share):=by
 have hsh:=bShared_c b share hm hs
 unfold evenA
 by_cases hE : yW b share = 0
 ·obtain ⟨ok,h1,h2⟩:=zaB.1 hE
  have m1:=ok.m1
  have m2:=ok.m2
  have r1:=ok.r1
  have r2:=ok.r2
  have e1 : ((b.months.map moA).length : Int) = b.months.length:=by rw [List.length_map]
  unfold jS at hsh
  rw [hE,if_pos ((yy b).2 ok)] at hsh
  rw [if_neg (fun h=>h hE)]
  refine Comp.body (T:=tab) (res:=[.tmp 4,.tmp 5]) za [] Tryz.func219 rfl (by kernel_rfl) Tryz.ntmps219 rfl (by simp only [List.length_cons,List.length_nil];decide) (by simp only [lowL,bedL,AV.low];rfl) ?_;conv=>whnf
  repeat' first|((with_reducible first|refine XBr.y2 fun h=>?_|refine XBr.n2 fun h=>?_|refine XBr.bne (fun h=>?_) fun h=>?_|refine XInt.a ?_) <;> conv=>whnf)|((refine zf.ret hsh ?_);conv=>whnf)|fail
  refine Walk.loopK za [] [(1,_),(2,_),(4,_),(5,_),(23,_)] ⟨rfl,rfl,rfl,rfl,rfl,trivial⟩ (fun n : Nat=>(n : Int) <= b.room + 1) (fun n=>[(8,.int .i64 (wj b share n)),(24,natA n)]) (fun _=>[]) (fun n=>(b.room + 1).toNat - n) 0 (by omega) rfl ⟨rfl,rfl,trivial⟩ ?_
  intro n hn
  have hk:=fun (h : (n : Int) <= b.room)=>keeps_c b false (List.replicate b.months.length (n : Int)) share (by omega) (by omega) (by rw [List.length_replicate];omega)
  have hkA : (n : Int) <= b.room -> zat b (List.replicate b.months.length (n : Int)) share = .tup [.bool (qY b (List.replicate b.months.length (n : Int)) share),.int .i64 0]:=fun h=>by
   unfold zat
   rw [if_neg (fun h'=>h' (fy.2 ⟨ok,List.length_replicate,fun x hx=>by rw [List.eq_of_mem_replicate hx];omega⟩)),if_neg (by rw [zz.2 ⟨h1,h2⟩];simp)]
  have hr:=repeat_c (n : Int) b.months.length (by omega) (by omega)
  have hev : wj b share (n + 1) = if qY b (List.replicate b.months.length (n : Int)) share = true then (n : Int) else wj b share n:=rfl
  conv=>whnf
  by_cases hlt : (n : Int) <= b.room
  ·have hk:=hk hlt
   rw [hkA hlt] at hk
   generalize qY b (List.replicate b.months.length (n : Int)) share = r at hk hev
   have hr' : Comp Tryz.prog 330 [.sl false [.int .i64 (n : Int)],.int .i64 ((b.months.map moA).length : Int)] (.sl false (ints (List.replicate b.months.length (n : Int)))):=by rw [e1];exact hr
   repeat' first|((with_reducible first|refine XBr.y fun h=>?_|refine XBr.n fun h=>?_|refine XBr.dec (fun h=>?_) fun h=>?_|refine XInt.a ?_|apply Chk.go|apply ChkA.go|apply ChkF.go|apply ChkB.go|apply kC.mk) <;> conv=>whnf)|(refine zj.a ?_;conv=>whnf)|(with_reducible first|apply XAnd.mk|exact trivial)|(exact zm.mk rfl rfl)|(apply Walk.drawN (id:=8) za zi [] [] (hsU _) [_,_,_,_,_,_,_,_,_,_,_,_,_,_] (by kernel_rfl) rfl)|((first|refine zf.ret hr' ?_|refine zf.ret hk ?_);conv=>whnf)|((with_reducible refine XBr.mk' (fun h=>?_) fun h=>?_) <;> conv=>whnf)|fail
   ·rename_i h
    rw [if_pos h] at hev
    refine zu.go (n + 1) (by omega) (by omega) rfl ⟨rfl,rfl,rfl,rfl,rfl,?_,rfl,trivial⟩
    rw [hev];rfl
   ·rename_i h
    rw [if_neg (by rw [h];simp)] at hev
    refine zu.go (n + 1) (by omega) (by omega) rfl ⟨rfl,rfl,rfl,rfl,rfl,?_,rfl,trivial⟩
    rw [hev];rfl
  ·obtain rfl : n = b.room.toNat + 1:=by omega
   clear hk hkA hr hev
   generalize wj b share (b.room.toNat + 1) = z
   repeat' ((with_reducible first|refine XBr.y fun h=>?_|refine XBr.n fun h=>?_|refine XBr.dec (fun h=>?_) fun h=>?_) <;> conv=>whnf)
   ·rename_i h
    rw [if_pos h];exact ⟨.low rfl⟩
   ·rename_i h
    rw [if_neg h];exact ⟨.low rfl⟩
 ·rw [if_pos hE]
  have hE2 : ∃ d,jS b share = .tup [d,.int .i64 (yW b share)] /\ d.low 0 = true:=by
   unfold jS
   refine ⟨_,rfl,?_⟩
   split
   ·exact dskL b
   ·rfl
  obtain ⟨d,hd,hd2⟩:=hE2
  rw [hd] at hsh
  generalize yW b share = e at hsh hE
  refine Comp.body (T:=tab) (res:=[.tmp 4,.tmp 5]) za [] Tryz.func219 rfl (by kernel_rfl) Tryz.ntmps219 rfl (by simp only [List.length_cons,List.length_nil];decide) (by simp only [lowL,bedL,AV.low];rfl) ?_;conv=>whnf
  repeat' first|((with_reducible first|refine XBr.y2 fun h=>?_|refine XBr.n2 fun h=>?_|refine XBr.bne (fun h=>?_) fun h=>?_) <;> conv=>whnf)|((refine zf.ret hsh ?_);conv=>whnf)|fail
  exact ⟨.low rfl⟩
end GA
end
section
namespace GA
open Go Go.RowKit Go.Proofs
def endP (b : Bd) (plan : List Int) : Nat -> Nat -> Int
 | 0,n=>n
 | k + 1,n=>if lieR b (b.months.length - (k + 1)) n - plan.getD (b.months.length - (k + 1)) 0 < 0 then lieR b (b.months.length - (k + 1)) n - plan.getD (b.months.length - (k + 1)) 0 else endP b plan k (lieR b (b.months.length - (k + 1)) n - plan.getD (b.months.length - (k + 1)) 0).toNat
theorem lieR_plan {b : Bd} {plan : List Int} {m n : Nat} (h : m < b.months.length) : lieR (zK b plan) m n = lieR b m n:=by
 show kQ b.room (moB (zK b plan) m).g n (moB (zK b plan) m).pl (moB (zK b plan) m).th = _
 rw [vK h];rfl
theorem gS {b : Bd} {plan : List Int} : ∀ (k n : Nat),k <= b.months.length -> endW (zK b plan) k n = endP b plan k n
 | 0,n,_=>rfl
 | k + 1,n,hk=>by
   by_cases h0 : 0 < b.months.length
   ·have hm : b.months.length - (k + 1) < b.months.length:=by omega
    rw [endW,endP,yc,lieR_plan hm,vK hm]
    dsimp only
    rw [gS k _ (by omega)]
   ·omega
theorem endR_plan (b : Bd) (plan : List Int) : endR (zK b plan) = endP b plan b.months.length (zS b).toNat:=by
 unfold endR
 rw [yc,gS _ _ (Nat.le_refl _)];rfl
theorem keepB_eq (b : Bd) (plan : List Int) (share : Int) : qY b plan share = decide (share <= endP b plan b.months.length (zS b).toNat):=by
 unfold qY;rw [endR_plan]
def bTwo (nl : Bool) (sv : List Su) : Bd:=⟨50,20,2,false,[⟨10,6,0,5,0,4⟩,⟨10,3,0,0,0,10⟩],nl,sv⟩
theorem two_c (nl : Bool) (sv : List Su) : Comp Tryz.prog 220 [.sl nl (sv.map suA)] (bedA (bTwo nl sv)):=by
 refine Comp.body (T:=tab) (res:=[.cell 2 121]) za [] Tryz.func220 rfl (by kernel_rfl) Tryz.ntmps220 rfl (by simp only [List.length_cons,List.length_nil];decide) (by simp only [lowL,AV.low,js];rfl) ?_;conv=>whnf
 repeat' (refine zj.a ?_;conv=>whnf)
 show XOut _ _ (bedA (bTwo nl sv)) (bedA (bTwo nl sv))
 exact ⟨.low (bedL _)⟩
def evenG (b : Bd) (share : Int) : Nat -> Int
 | 0=>-1
 | n + 1=>if decide (share <= endP b (List.replicate b.months.length (n : Int)) b.months.length (zS b).toNat) = true then n else evenG b share n
theorem za4 (b : Bd) (share : Int) : ∀ n,wj b share n = evenG b share n
 | 0=>rfl
 | n + 1=>by rw [wj,evenG,keepB_eq,za4 b share n]
theorem aw4 : evenA (bTwo true []) 0 = .tup [.int .i64 3,.int .i64 0]:=by
 have h1 : yW (bTwo true []) 0 = 0:=by decide +kernel
 have h2 : wj (bTwo true []) 0 ((bTwo true []).room.toNat + 1) = 3:=by rw [za4];decide +kernel
 unfold evenA
 rw [h1,if_neg (fun h=>h rfl),h2,if_neg (by decide)]
end GA
end
section
namespace GA
open Go Go.RowKit Go.Proofs
def saK (plan : List Int) : Nat -> List Sk
 | 0=>[]
 | k + 1=>saK plan k ++ if 0 < plan.getD k default then [⟨plan.getD k default,(k : Int).tmod 6⟩] else []
def saL (lost : Int) (ss : List Sk) : Ld:=⟨100,lost,ss.isEmpty,ss,true,[],true,[]⟩
theorem saK_ok {plan : List Int} (h : ∀ x ∈ plan,0 <= x /\ x <= 100) : ∀ k,k <= plan.length -> (saK plan k).length <= k /\ ∀ s ∈ saK plan k,1 <= s.m /\ s.m <= 100 /\ 0 <= s.o /\ s.o <= 5
 | 0,_=>⟨Nat.le_refl _,fun s hs=>by cases hs⟩
 | k + 1,hk=>by
   obtain ⟨h1,h2⟩:=saK_ok h k (by omega)
   have hx:=h _ (zn (xs:=plan) (i:=k) (d:=default) (by omega))
   refine ⟨?_,fun s hs=>?_⟩
   ·rw [saK,List.length_append]
    split
    ·rw [List.length_singleton];omega
    ·rw [List.length_nil];omega
   ·rw [saK] at hs
    rcases List.mem_append.1 hs with hs | hs
    ·exact h2 s hs
    ·split at hs
     ·rw [List.mem_singleton] at hs;subst hs
      have:=Int.tmod_eq_emod_of_nonneg (a:=(k : Int)) (b:=6) (by omega)
      dsimp only;omega
     ·cases hs
theorem saL_ok {lost : Int} {ss : List Sk} (h1 : 0 <= lost) (h2 : lost <= 90) (hn : ss.length <= 9) (h : ∀ s ∈ ss,1 <= s.m /\ s.m <= 100 /\ 0 <= s.o /\ s.o <= 5) : LdOk (saL lost ss) where
 n:=hn
 na:=Nat.zero_le _
 nw:=Nat.zero_le _
 b1:=by show (1 : Int) <= 100;decide
 b2:=by show (100 : Int) <= 100;decide
 s1:=h1
 s2:=h2
 sk:=fun s hs=>h s hs
 ap:=fun p hp=>by simp [saL] at hp
 wp:=fun p hp=>by simp [saL] at hp
theorem sa_weight (lost : Int) (ss : List Sk) {n : Int} (o : Int) (h1 : 0 <= n) (h2 : 0 <= lost) : zL (saL lost ss) ⟨n,o⟩ = wgtZ n lost:=by
 unfold zL wgtZ
 show n - n * lost / 100 = _
 rw [Int.tdiv_eq_ediv_of_nonneg (Int.mul_nonneg h1 h2)]
theorem zbc {plan : List Int} {lost : Int} (l : Ld) (h : ∀ x ∈ plan,0 <= x /\ x <= 100) (h2 : 0 <= lost) (hw : ∀ n o : Int,0 <= n -> zL l ⟨n,o⟩ = wgtZ n lost) : ∀ k,k <= plan.length -> k <= 6 ->
  ((saK plan k).foldl (zJ l) (List.replicate 6 0)).length = 6 /\ ∀ m,m < 6 -> ((saK plan k).foldl (zJ l) (List.replicate 6 0)).getD m 0 = if m < k then wgtZ (plan.getD m default) lost else 0
 | 0,_,_=>⟨by simp [saK],fun m hm=>by
   rw [if_neg (by omega)]
   show (List.replicate 6 (0 : Int)).getD m 0 = 0
   rw [List.getD_eq_getElem?_getD,List.getElem?_replicate,if_pos hm];rfl⟩
 | k + 1,hk,h6=>by
   obtain ⟨i1,i2⟩:=zbc l h h2 hw k (by omega) (by omega)
   have hx:=h _ (zn (xs:=plan) (i:=k) (d:=default) (by omega))
   have hz : ¬ 0 < plan.getD k default -> wgtZ (plan.getD k default) lost = 0:=fun hn=>by
    have : plan.getD k default = 0:=by omega
    unfold wgtZ;rw [this,Int.zero_mul];rfl
   rw [saK,List.foldl_append]
   generalize (saK plan k).foldl (zJ l) (List.replicate 6 0) = out at i1 i2
   by_cases hp : 0 < plan.getD k default
   ·rw [if_pos hp]
    have ht : ((k : Int).tmod 6).toNat = k:=by
     have:=Int.tmod_eq_emod_of_nonneg (a:=(k : Int)) (b:=6) (by omega)
     omega
    show (out.set ((k : Int).tmod 6).toNat (out.getD ((k : Int).tmod 6).toNat 0 + zL l ⟨plan.getD k default,(k : Int).tmod 6⟩)).length = 6 /\ ∀ m,m < 6 -> (out.set ((k : Int).tmod 6).toNat (out.getD ((k : Int).tmod 6).toNat 0 + zL l ⟨plan.getD k default,(k : Int).tmod 6⟩)).getD m 0 = _
    rw [ht,hw _ _ hx.1]
    refine ⟨by rw [List.length_set];exact i1,fun m hm=>?_⟩
    rw [qE]
    by_cases e : k = m
    ·subst e
     rw [if_pos ⟨rfl,by omega⟩,if_pos (by omega),i2 k hm,if_neg (by omega),Int.zero_add]
    ·rw [if_neg (fun q=>e q.1),i2 m hm]
     by_cases hm2 : m < k
     ·rw [if_pos hm2,if_pos (by omega)]
     ·rw [if_neg hm2,if_neg (by omega)]
   ·rw [if_neg hp]
    refine ⟨i1,fun m hm=>?_⟩
    show out.getD m 0 = _
    rw [i2 m hm]
    by_cases e : m = k
    ·subst e
     rw [if_neg (by omega),if_pos (by omega),hz hp]
    ·by_cases hm2 : m < k
     ·rw [if_pos hm2,if_pos (by omega)]
     ·rw [if_neg hm2,if_neg (by omega)]
def exW : Wg:=⟨0,100,100,10,12⟩
def exH : Hu:=⟨1,0,false,[exW]⟩
theorem exH_ok : HuOk exH:=⟨by decide,by decide,by decide,by decide,by decide,fun w hw=>by simp [exH] at hw;subst hw;decide,fun w hw=>by simp [exH] at hw;subst hw;decide,fun w hw=>by simp [exH] at hw;subst hw;decide⟩
theorem exLeast_c : Comp Tryz.prog 221 [huA exH,.int .i64 0] (.tup [.agg [.int .i64 1,.int .i64 10],.int .i64 0]):=by
 have hc:=vA exH exH_ok
 have hw:=w5 exH 0 (by decide)
 rw [show inZ 0 0 ((exH.ws.length : Int) - 1) = true from by decide] at hw
 have hl:=fA 0 100 100 10 12 (by decide) (by decide) (by decide)
 have e : AV.agg [natA (loN 10 100).1,natA (loN 10 100).2] = .agg [.int .i64 1,.int .i64 10]:=by rw [show loN 10 100 = (1,10) from by decide];rfl
 rw [e] at hl
 have hwd : Comp Tryz.prog 331 [huA exH,.int .i64 0] (.tup [wgA exW,.int .i64 0]):=by
  refine Comp.body (T:=tab) (res:=[.cell 4 133,.tmp 5]) za [] Tryz.func331 rfl (by kernel_rfl) Tryz.ntmps331 rfl (by simp only [List.length_cons,List.length_nil];decide) (by simp only [lowL,AV.low,huL];rfl) ?_;conv=>whnf
  repeat' first|((with_reducible first|apply XBr.tt|refine XBr.y2 fun h=>?_|refine XBr.n2 fun h=>?_|refine XBr.bne (fun h=>?_) fun h=>?_) <;> conv=>whnf) | with_reducible apply XBr.not|((first|refine zf.ret hc ?_|refine zf.ret hw ?_|refine XIx.mk (by decide) (by decide) rfl ?_);conv=>whnf)|fail
  exact ⟨.low rfl⟩
 refine Comp.body (T:=tab) (res:=[.cell 4 67,.tmp 5]) za [] Tryz.func221 rfl (by kernel_rfl) Tryz.ntmps221 rfl (by simp only [List.length_cons,List.length_nil];decide) (by simp only [lowL,AV.low,huL];rfl) ?_;conv=>whnf
 repeat' first|((with_reducible first|refine XBr.y2 fun h=>?_|refine XBr.n2 fun h=>?_|refine XBr.bne (fun h=>?_) fun h=>?_) <;> conv=>whnf)|((first|refine zf.ret hwd ?_|refine zf.ret hl ?_);conv=>whnf)|fail
 exact ⟨.low rfl⟩
def exL : Ld:=⟨9,10,false,[⟨30,1⟩],true,[],true,[]⟩
theorem exParts_c : Comp Tryz.prog 47 [ldA exL] (.tup [.sl false (ints [0,27,0,0,0,0]),.int .i64 0]):=by
 have h:=fp exL ⟨fun _=>rfl,by decide,by decide,by decide⟩ (by decide)
 have e : jL exL = [0,27,0,0,0,0]:=by decide
 rw [e] at h;exact h
theorem awake08_c : Comp Tryz.prog 46 [] (.bool true):=by
 have c1:=two_c true []
 have c2:=even_c (bTwo true []) 0 (by decide) (by decide)
 rw [aw4] at c2
 have c3:=exLeast_c
 have c4:=exParts_c
 have c5:=cEq [0,27,0,0,0,0] (by decide)
 refine Comp.body (T:=tab) (res:=[.tmp 0]) za [] Tryz.func46 rfl (by kernel_rfl) Tryz.ntmps46 rfl (by simp only [List.length_cons,List.length_nil];decide) (by rfl) ?_;conv=>whnf
 repeat' first|((with_reducible first|apply XBr.tt|apply XBr.ff|refine XBr.y1 fun h=>?_|refine XBr.n1 fun h=>?_|refine XBr.beq (fun h=>?_) fun h=>?_) <;> conv=>whnf)|((first|refine zj.a ?_|refine zf.ret c1 ?_|refine zf.ret c2 ?_|refine zf.ret c3 ?_|refine zf.ret c4 ?_|refine zf.ret c5 ?_|refine XEqA.mk ⟨[1,10],[1,10],rfl,rfl,rfl,rfl,?_⟩);conv=>whnf)|(refine Walk.norm za [] [(0,.bool false),(1,.int .i64 3),(2,.int .i64 0),(3,.ptr 0 0),(4,.int .i64 0),(5,.sl false (ints [0,27,0,0,0,0])),(6,.int .i64 0)] ⟨rfl,rfl,rfl,rfl,rfl,rfl,rfl,trivial⟩ ?_;conv=>whnf)|((with_reducible refine XBr.mk' (fun h=>?_) fun h=>?_) <;> conv=>whnf)|fail
 all_goals first|exact XOut.bool rfl|(rename_i h;exact absurd h (by decide))
end GA
end
