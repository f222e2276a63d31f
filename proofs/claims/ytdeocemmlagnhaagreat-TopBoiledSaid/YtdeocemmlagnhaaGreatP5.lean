/- Part 5 of a proof: K1, D28, FB, T1, T2. -/
import Derived.Test.YtdeocemmlagnhaaGreatP4
import Derived.Test.YtdeocemmlagnhaaGreatRows
set_option linter.unusedVariables false
set_option linter.unusedSimpArgs false
set_option maxRecDepth 8000
section
namespace GA
open Go Go.RowKit Go.Proofs
theorem zi : Tryz.prog.follows .mixedOrders = true:=by kernel_rfl
theorem kj {α : Type} {p : α -> Bool} {xs : List α} {d : α} (h : ∀ j,j < xs.length -> p (xs.getD j d) = false) : xs.findIdx? p = none:=by
 rw [List.findIdx?_eq_none_iff];intro x hx
 obtain ⟨j,hj,rfl⟩:=List.mem_iff_getElem.1 hx
 have:=h j hj;rwa [List.getD_eq_getElem?_getD,List.getElem?_eq_getElem hj] at this
theorem kn {α : Type} {p : α -> Bool} {xs : List α} {d : α} {i : Nat} (hi : i < xs.length) (hp : p (xs.getD i d) = true) (h : ∀ j,j < i -> p (xs.getD j d) = false) : xs.findIdx? p = some i:=by
 rw [List.findIdx?_eq_some_iff_getElem]
 refine ⟨hi,by rwa [List.getD_eq_getElem?_getD,List.getElem?_eq_getElem hi] at hp,fun j hj=>?_⟩
 have:=h j hj;rw [List.getD_eq_getElem?_getD,List.getElem?_eq_getElem (by omega)] at this;simpa using this
theorem zn {α : Type} {xs : List α} {d : α} {i : Nat} (hi : i < xs.length) : xs.getD i d ∈ xs:=by
 rw [List.getD_eq_getElem?_getD,List.getElem?_eq_getElem hi];exact List.getElem_mem hi
def idxR {α : Type} (p : α -> Bool) (xs : List α) : Int:=match xs.findIdx? p with | some i=>i | none=>-1
theorem kW {α : Type} {p : α -> Bool} {xs : List α} : (0 <= idxR p xs) ↔ xs.any p = true:=by
 unfold idxR
 cases h : xs.findIdx? p with
 | none=>rw [List.findIdx?_eq_none_iff] at h;simp;intro x hx;simpa using h x hx
 | some i =>
   rw [List.findIdx?_eq_some_iff_getElem] at h;obtain ⟨h1,h2,_⟩:=h
   simp;exact ⟨_,List.getElem_mem h1,h2⟩
def inB (n lo hi : Int) : Bool:=decide (lo <= n) && decide (n <= hi)
theorem in_c (n lo hi : Int) : Comp Tryz.prog 134 [.int .i64 n,.int .i64 lo,.int .i64 hi] (.bool (inB n lo hi)):=by
 refine Comp.body (T:=tab) (res:=[.tmp 6]) za [] Tryz.func134 rfl (by kernel_rfl) Tryz.ntmps134 rfl (by simp only [List.length_cons,List.length_nil];decide) (by rfl) ?_;conv=>whnf
 repeat' first|((with_reducible first|apply XBr.tt|apply XBr.ff);conv=>whnf)|((with_reducible apply XBr.dec) <;> (intro h;first|(exfalso;omega)|((try simp only [List.length_map] at h);first|(exfalso;omega)|(conv=>whnf))))|fail
 all_goals (refine XOut.bool ?_;rw [Bool.eq_iff_iff];simp [inB];try omega)
theorem idxf_int (nl : Bool) (xs : List Int) (g : FuncId) (caps : List AV) (p : Int -> Bool) (hl : lowL 0 caps = true) (hx : xs.length <= 100000) (hp : ∀ x ∈ xs,Comp Tryz.prog g (.int .i64 x :: caps) (.bool (p x))) :
  Comp Tryz.prog 367 [.sl nl (ints xs),.fn g caps] (.int .i64 (idxR p xs)):=by
 refine Comp.body (T:=tab) (res:=[.tmp 4]) za [] Tryz.func367 rfl (by kernel_rfl) Tryz.ntmps367 rfl (by simp only [List.length_cons,List.length_nil];decide) (by simp only [lowL,AV.low,lowI,hl];rfl) ?_;conv=>whnf
 refine Walk.loop za [] (fun i : Nat=>i <= xs.length /\ ∀ j,j < i -> p (xs.getD j default) = false) (fun i=>[(0,.sl nl (ints xs)),(1,.fn g caps),(7,.int .i64 xs.length),(8,.int .i64 i)]) (fun _=>[]) (fun i=>xs.length - i) 0 ⟨by omega,by omega⟩ rfl ⟨rfl,rfl,by simp only [List.length_map];rfl,rfl,trivial⟩ ?_
 rintro i ⟨h2,h3⟩
 conv=>whnf
 repeat' first|(refine XIx.a ?_;conv=>whnf)|((with_reducible apply XBr.dec) <;> (intro h;first|(exfalso;omega)|((try simp only [List.length_map] at h);first|(exfalso;omega)|(conv=>whnf))))|fail
 ·refine zf.ret (hp _ (zn (i:=i) (d:=default) (by omega))) ?_
  conv=>whnf
  refine XBr.mk' ?_ ?_ <;> intro h4 <;> (conv=>whnf)
  ·refine XOut.int ?_
   simp only [idxR,kn (d:=default) (i:=i) (by omega) h4 h3]
  ·skip
   repeat' ((with_reducible refine XInt.a ?_);conv=>whnf)
   refine zu.go (i + 1) ⟨by omega,fun j hj=>?_⟩ (by omega) rfl ⟨rfl,rfl,rfl,rfl,trivial⟩
   by_cases hji : j = i
   ·subst hji;exact h4
   ·exact h3 j (by omega)
 ·refine XOut.int ?_
  simp only [idxR,kj (d:=default) fun j hj=>h3 j (by omega)]
theorem contf_int (nl : Bool) (xs : List Int) (g : FuncId) (caps : List AV) (p : Int -> Bool) (hl : lowL 0 caps = true) (hx : xs.length <= 100000) (hp : ∀ x ∈ xs,Comp Tryz.prog g (.int .i64 x :: caps) (.bool (p x))) :
  Comp Tryz.prog 273 [.sl nl (ints xs),.fn g caps] (.bool (xs.any p)):=by
 refine Comp.body (T:=tab) (res:=[.tmp 4]) za [] Tryz.func273 rfl (by kernel_rfl) Tryz.ntmps273 rfl (by simp only [List.length_cons,List.length_nil];decide) (by simp only [lowL,AV.low,lowI,hl];rfl) ?_;conv=>whnf
 refine zf.ret (idxf_int nl xs g caps p hl hx hp) ?_
 conv=>whnf
 refine XOut.bool ?_
 rw [Bool.eq_iff_iff,decide_eq_true_eq];exact kW
theorem zbn {α : Type} {xs ys : List α} {d : α} (hl : xs.length = ys.length) (h : ∀ j,j < xs.length -> xs.getD j d = ys.getD j d) : xs = ys:=by
 apply List.ext_getElem hl
 intro j h1 h2
 have:=h j h1
 rwa [List.getD_eq_getElem?_getD,List.getD_eq_getElem?_getD,List.getElem?_eq_getElem h1,List.getElem?_eq_getElem h2] at this
theorem equal_int (n1 n2 : Bool) (xs ys : List Int) (hx : xs.length <= 100000) : Comp Tryz.prog 245 [.sl n1 (ints xs),.sl n2 (ints ys)] (.bool (xs == ys)):=by
 refine Comp.body (T:=tab) (res:=[.tmp 4]) za [] Tryz.func245 rfl (by kernel_rfl) Tryz.ntmps245 rfl (by simp only [List.length_cons,List.length_nil];decide) (by simp only [lowL,AV.low,lowI];rfl) ?_;conv=>whnf
 repeat' ((with_reducible first|refine XBr.y2 fun h=>?_|refine XBr.n2 fun h=>?_|refine XBr.bne (fun h=>?_) fun h=>?_) <;> conv=>whnf)
 ·refine XOut.bool ?_
  rw [Bool.eq_iff_iff];simp;intro e;subst e;simp at h
 have hl : (xs.length : Int) = ys.length:=by simpa using h
 refine Walk.loop za [] (fun i : Nat=>i <= xs.length /\ ∀ j,j < i -> xs.getD j default = ys.getD j default) (fun i=>[(0,.sl n1 (ints xs)),(1,.sl n2 (ints ys)),(12,.int .i64 xs.length),(13,.int .i64 i)]) (fun _=>[]) (fun i=>xs.length - i) 0 ⟨by omega,by omega⟩ rfl ⟨rfl,rfl,by simp only [List.length_map];rfl,rfl,trivial⟩ ?_
 rintro i ⟨h2,h3⟩
 conv=>whnf
 repeat' ((with_reducible apply XBr.dec) <;> (intro h;first|(exfalso;omega)|((try simp only [List.length_map] at h);first|(exfalso;omega)|(conv=>whnf))))
 ·apply Walk.drawX za zi [] [] (fun _=>[]) [_,_,_,_,_,_,_,_,_] (by kernel_rfl) rfl
  ·skip
   repeat' first|((with_reducible first|apply Chk.go|apply ChkA.go);conv=>whnf)|(refine XIx.a ?_;conv=>whnf)|(with_reducible first|apply XAnd.mk|exact trivial)|(exact zm.mk rfl rfl)|fail
  ·skip
   repeat' first|((with_reducible first|apply ChkF.go|apply ChkB.go);conv=>whnf)|(with_reducible first|apply XAnd.mk|exact trivial)|fail
  ·conv=>whnf
   repeat' ((with_reducible first|refine XBr.y2 fun h=>?_|refine XBr.n2 fun h=>?_|refine XBr.bne (fun h=>?_) fun h=>?_|refine XInt.a ?_) <;> conv=>whnf)
   ·refine XOut.bool ?_
    rw [Bool.eq_iff_iff];simp
    intro e;subst e;exact h rfl
   ·refine zu.go (i + 1) ⟨by omega,fun j hj=>?_⟩ (by omega) rfl ⟨rfl,rfl,rfl,rfl,trivial⟩
    by_cases hji : j = i
    ·subst hji;exact h
    ·exact h3 j (by omega)
 ·refine XOut.bool ?_
  have:=zbn (by omega) fun j hj=>h3 j (by omega)
  rw [this];simp
theorem eq_int (n1 n2 : Bool) (xs ys : List Int) (hx : xs.length <= 100000) : Comp Tryz.prog 72 [.sl n1 (ints xs),.sl n2 (ints ys)] (.bool (xs == ys)):=by
 refine Comp.body (T:=tab) (res:=[.tmp 4]) za [] Tryz.func72 rfl (by kernel_rfl) Tryz.ntmps72 rfl (by simp only [List.length_cons,List.length_nil];decide) (by simp only [lowL,AV.low,lowI];rfl) ?_;conv=>whnf
 refine zf.ret (equal_int n1 n2 xs ys hx) ?_
 conv=>whnf
 exact XOut.bool rfl
def jG (xs : List Int) (g : Int) : List Int:=xs.filter fun x=>decide (g <= x)
theorem kept_next {xs : List Int} {g : Int} {i : Nat} (h : i < xs.length) : jG (xs.take (i + 1)) g = if g <= xs.getD i default then jG (xs.take i) g ++ [xs.getD i default] else jG (xs.take i) g:=by
 unfold jG;rw [ja h,List.filter_append]
 by_cases hg : g <= xs.getD i default
 ·rw [if_pos hg,List.filter_cons_of_pos (by simpa only [decide_eq_true_eq] using hg)];rfl
 ·rw [if_neg hg,List.filter_cons_of_neg (by simpa only [decide_eq_true_eq] using hg)];simp only [List.filter_nil,List.append_nil]
def slA (xs : List Int) : AV:=.sl xs.isEmpty (ints xs)
structure Sk where
 m : Int
 o : Int
 deriving Inhabited,DecidableEq
def skA (s : Sk) : AV:=.agg [.int .i64 s.m,.int .i64 s.o]
def prA (p : Int × Int) : AV:=.agg [.int .i64 p.1,.int .i64 p.2]
theorem skL {n : Nat} (s : Sk) : (skA s).low n = true:=rfl
theorem prL {n : Nat} (p : Int × Int) : (prA p).low n = true:=rfl
theorem lowSk {n : Nat} (xs : List Sk) : lowL n (xs.map skA) = true:=zT (fun _=>rfl) xs
theorem vP {n : Nat} (xs : List (Int × Int)) : lowL n (xs.map prA) = true:=zT (fun _=>rfl) xs
theorem z4 (xs : List Sk) : wide 2 (xs.map skA) = true:=je (f:=skA) (n:=2) (fun _=>rfl) (fun _=>rfl) xs
theorem z5 (xs : List (Int × Int)) : wide 2 (xs.map prA) = true:=je (f:=prA) (n:=2) (fun _=>rfl) (fun _=>rfl) xs
theorem idxf_sk (nl : Bool) (xs : List (Sk)) (g : FuncId) (caps : List AV) (p : Sk -> Bool) (hl : lowL 0 caps = true) (hx : xs.length <= 100000) (hp : ∀ x ∈ xs,Comp Tryz.prog g (skA x :: caps) (.bool (p x))) :
  Comp Tryz.prog 377 [.sl nl (xs.map skA),.fn g caps] (.int .i64 (idxR p xs)):=by
 refine Comp.body (T:=tab) (res:=[.tmp 4]) za [] Tryz.func377 rfl (by kernel_rfl) Tryz.ntmps377 rfl (by simp only [List.length_cons,List.length_nil];decide) (by simp only [lowL,AV.low,lowSk,hl];rfl) ?_;conv=>whnf
 refine Walk.loop za [] (fun i : Nat=>i <= xs.length /\ ∀ j,j < i -> p (xs.getD j default) = false) (fun i=>[(0,.sl nl (xs.map skA)),(1,.fn g caps),(7,.int .i64 xs.length),(8,.int .i64 i)]) (fun _=>[]) (fun i=>xs.length - i) 0 ⟨by omega,by omega⟩ rfl ⟨rfl,rfl,by simp only [List.length_map];rfl,rfl,trivial⟩ ?_
 rintro i ⟨h2,h3⟩
 conv=>whnf
 repeat' first|(refine XIx.a ?_;conv=>whnf)|((with_reducible apply XBr.dec) <;> (intro h;first|(exfalso;omega)|((try simp only [List.length_map] at h);first|(exfalso;omega)|(conv=>whnf))))|fail
 ·refine zf.ret (hp _ (zn (i:=i) (d:=default) (by omega))) ?_
  conv=>whnf
  refine XBr.mk' ?_ ?_ <;> intro h4 <;> (conv=>whnf)
  ·refine XOut.int ?_
   simp only [idxR,kn (d:=default) (i:=i) (by omega) h4 h3]
  ·skip
   repeat' ((with_reducible refine XInt.a ?_);conv=>whnf)
   refine zu.go (i + 1) ⟨by omega,fun j hj=>?_⟩ (by omega) rfl ⟨rfl,rfl,rfl,rfl,trivial⟩
   by_cases hji : j = i
   ·subst hji;exact h4
   ·exact h3 j (by omega)
 ·refine XOut.int ?_
  simp only [idxR,kj (d:=default) fun j hj=>h3 j (by omega)]
theorem contf_sk (nl : Bool) (xs : List (Sk)) (g : FuncId) (caps : List AV) (p : Sk -> Bool) (hl : lowL 0 caps = true) (hx : xs.length <= 100000) (hp : ∀ x ∈ xs,Comp Tryz.prog g (skA x :: caps) (.bool (p x))) :
  Comp Tryz.prog 298 [.sl nl (xs.map skA),.fn g caps] (.bool (xs.any p)):=by
 refine Comp.body (T:=tab) (res:=[.tmp 4]) za [] Tryz.func298 rfl (by kernel_rfl) Tryz.ntmps298 rfl (by simp only [List.length_cons,List.length_nil];decide) (by simp only [lowL,AV.low,lowSk,hl];rfl) ?_;conv=>whnf
 refine zf.ret (idxf_sk nl xs g caps p hl hx hp) ?_
 conv=>whnf
 refine XOut.bool ?_
 rw [Bool.eq_iff_iff,decide_eq_true_eq];exact kW
theorem every1_sk (x : Sk) (g : FuncId) (caps : List AV) (p : Sk -> Bool) (hl : lowL 0 caps = true) (hp : Comp Tryz.prog g (skA x :: caps) (.bool (p x))) :
  Comp Tryz.prog 299 [skA x,.pim [.fn g caps]] (.bool (!p x)):=by
 refine Comp.body (T:=tab) (res:=[.tmp 3]) za [] Tryz.func299 rfl (by kernel_rfl) Tryz.ntmps299 rfl (by simp only [List.length_cons,List.length_nil];decide) (by simp only [lowL,AV.low,skL,hl];rfl) ?_;conv=>whnf
 refine zf.ret hp ?_
 conv=>whnf
 exact XOut.bool rfl
theorem zaJ (nl : Bool) (xs : List (Sk)) (g : FuncId) (caps : List AV) (p : Sk -> Bool) (hl : lowL 0 caps = true) (hx : xs.length <= 100000) (hp : ∀ x ∈ xs,Comp Tryz.prog g (skA x :: caps) (.bool (p x))) :
  Comp Tryz.prog 172 [.sl nl (xs.map skA),.fn g caps] (.bool (xs.all p)):=by
 refine Comp.body (T:=tab) (res:=[.tmp 4]) za [] Tryz.func172 rfl (by kernel_rfl) Tryz.ntmps172 rfl (by simp only [List.length_cons,List.length_nil];decide) (by simp only [lowL,AV.low,lowSk,hl];rfl) ?_;conv=>whnf
 refine zf.ret (contf_sk nl xs 299 [.pim [.fn g caps]] (fun x=>!p x) (by simp only [lowL,AV.low,hl];rfl) hx fun x hm=>every1_sk x g caps p hl (hp x hm)) ?_
 conv=>whnf
 refine XOut.bool ?_
 rw [List.not_any_eq_all_not];simp
theorem idxf_pr (nl : Bool) (xs : List (Int × Int)) (g : FuncId) (caps : List AV) (p : Int × Int -> Bool) (hl : lowL 0 caps = true) (hx : xs.length <= 100000) (hp : ∀ x ∈ xs,Comp Tryz.prog g (prA x :: caps) (.bool (p x))) :
  Comp Tryz.prog 378 [.sl nl (xs.map prA),.fn g caps] (.int .i64 (idxR p xs)):=by
 refine Comp.body (T:=tab) (res:=[.tmp 4]) za [] Tryz.func378 rfl (by kernel_rfl) Tryz.ntmps378 rfl (by simp only [List.length_cons,List.length_nil];decide) (by simp only [lowL,AV.low,vP,hl];rfl) ?_;conv=>whnf
 refine Walk.loop za [] (fun i : Nat=>i <= xs.length /\ ∀ j,j < i -> p (xs.getD j default) = false) (fun i=>[(0,.sl nl (xs.map prA)),(1,.fn g caps),(7,.int .i64 xs.length),(8,.int .i64 i)]) (fun _=>[]) (fun i=>xs.length - i) 0 ⟨by omega,by omega⟩ rfl ⟨rfl,rfl,by simp only [List.length_map];rfl,rfl,trivial⟩ ?_
 rintro i ⟨h2,h3⟩
 conv=>whnf
 repeat' first|(refine XIx.a ?_;conv=>whnf)|((with_reducible apply XBr.dec) <;> (intro h;first|(exfalso;omega)|((try simp only [List.length_map] at h);first|(exfalso;omega)|(conv=>whnf))))|fail
 ·refine zf.ret (hp _ (zn (i:=i) (d:=default) (by omega))) ?_
  conv=>whnf
  refine XBr.mk' ?_ ?_ <;> intro h4 <;> (conv=>whnf)
  ·refine XOut.int ?_
   simp only [idxR,kn (d:=default) (i:=i) (by omega) h4 h3]
  ·skip
   repeat' ((with_reducible refine XInt.a ?_);conv=>whnf)
   refine zu.go (i + 1) ⟨by omega,fun j hj=>?_⟩ (by omega) rfl ⟨rfl,rfl,rfl,rfl,trivial⟩
   by_cases hji : j = i
   ·subst hji;exact h4
   ·exact h3 j (by omega)
 ·refine XOut.int ?_
  simp only [idxR,kj (d:=default) fun j hj=>h3 j (by omega)]
theorem contf_pr (nl : Bool) (xs : List (Int × Int)) (g : FuncId) (caps : List AV) (p : Int × Int -> Bool) (hl : lowL 0 caps = true) (hx : xs.length <= 100000) (hp : ∀ x ∈ xs,Comp Tryz.prog g (prA x :: caps) (.bool (p x))) :
  Comp Tryz.prog 300 [.sl nl (xs.map prA),.fn g caps] (.bool (xs.any p)):=by
 refine Comp.body (T:=tab) (res:=[.tmp 4]) za [] Tryz.func300 rfl (by kernel_rfl) Tryz.ntmps300 rfl (by simp only [List.length_cons,List.length_nil];decide) (by simp only [lowL,AV.low,vP,hl];rfl) ?_;conv=>whnf
 refine zf.ret (idxf_pr nl xs g caps p hl hx hp) ?_
 conv=>whnf
 refine XOut.bool ?_
 rw [Bool.eq_iff_iff,decide_eq_true_eq];exact kW
theorem every1_pr (x : Int × Int) (g : FuncId) (caps : List AV) (p : Int × Int -> Bool) (hl : lowL 0 caps = true) (hp : Comp Tryz.prog g (prA x :: caps) (.bool (p x))) :
  Comp Tryz.prog 301 [prA x,.pim [.fn g caps]] (.bool (!p x)):=by
 refine Comp.body (T:=tab) (res:=[.tmp 3]) za [] Tryz.func301 rfl (by kernel_rfl) Tryz.ntmps301 rfl (by simp only [List.length_cons,List.length_nil];decide) (by simp only [lowL,AV.low,prL,hl];rfl) ?_;conv=>whnf
 refine zf.ret hp ?_
 conv=>whnf
 exact XOut.bool rfl
theorem wW (nl : Bool) (xs : List (Int × Int)) (g : FuncId) (caps : List AV) (p : Int × Int -> Bool) (hl : lowL 0 caps = true) (hx : xs.length <= 100000) (hp : ∀ x ∈ xs,Comp Tryz.prog g (prA x :: caps) (.bool (p x))) :
  Comp Tryz.prog 174 [.sl nl (xs.map prA),.fn g caps] (.bool (xs.all p)):=by
 refine Comp.body (T:=tab) (res:=[.tmp 4]) za [] Tryz.func174 rfl (by kernel_rfl) Tryz.ntmps174 rfl (by simp only [List.length_cons,List.length_nil];decide) (by simp only [lowL,AV.low,vP,hl];rfl) ?_;conv=>whnf
 refine zf.ret (contf_pr nl xs 301 [.pim [.fn g caps]] (fun x=>!p x) (by simp only [lowL,AV.low,hl];rfl) hx fun x hm=>every1_pr x g caps p hl (hp x hm)) ?_
 conv=>whnf
 refine XOut.bool ?_
 rw [List.not_any_eq_all_not];simp
theorem sack_in (s : Sk) : Comp Tryz.prog 173 [skA s] (.bool (inB s.m 1 100 && inB s.o 0 5)):=by
 refine Comp.body (T:=tab) (res:=[.tmp 2]) za [] Tryz.func173 rfl (by kernel_rfl) Tryz.ntmps173 rfl (by simp only [List.length_cons,List.length_nil];decide) (by rfl) ?_;conv=>whnf
 refine zf.ret (in_c _ _ _) ?_
 conv=>whnf
 refine XBr.mk' ?_ ?_ <;> intro h <;> (conv=>whnf)
 ·skip
  repeat' ((with_reducible apply XBr.tt);conv=>whnf)
  refine zf.ret (in_c _ _ _) ?_
  conv=>whnf
  repeat' ((with_reducible apply XBr.tt);conv=>whnf)
  refine XOut.bool ?_
  simp [h]
 ·skip
  repeat' ((with_reducible apply XBr.ff);conv=>whnf)
  refine XOut.bool ?_
  simp [h]
theorem pair_ne (p : Int × Int) : Comp Tryz.prog 177 [prA p] (.bool (p.1 != p.2)):=by
 refine Comp.body (T:=tab) (res:=[.tmp 2]) za [] Tryz.func177 rfl (by kernel_rfl) Tryz.ntmps177 rfl (by simp only [List.length_cons,List.length_nil];decide) (by rfl) ?_;conv=>whnf
 repeat' ((first|(with_reducible apply XArr.pim0)|(with_reducible apply XArr.pim1));conv=>whnf)
 exact XOut.bool rfl
structure Ld where
 bears : Int
 shrink : Int
 nls : Bool
 sacks : List Sk
 nla : Bool
 apart : List (Int × Int)
 nlw : Bool
 wth : List (Int × Int)
def ldC (l : Ld) : List AV:=[.int .i64 l.bears,.int .i64 l.shrink,.sl l.nls (l.sacks.map skA),.sl l.nla (l.apart.map prA),.sl l.nlw (l.wth.map prA)]
def ldA (l : Ld) : AV:=.agg (ldC l)
theorem vY {n : Nat} (l : Ld) : lowL n (ldC l) = true:=by simp only [ldC,lowL,AV.low,lowSk,vP];rfl
theorem ldL {n : Nat} (l : Ld) : (ldA l).low n = true:=by unfold ldA;simp only [AV.low,vY]
theorem sack_c (l : Ld) (n : Int) (hx : l.sacks.length <= 100000) : Comp Tryz.prog 176 [ldA l,.int .i64 n] (.bool (inB n 0 (l.sacks.length - 1))):=by
 refine Comp.body (T:=tab) (res:=[.tmp 4]) za [] Tryz.func176 rfl (by kernel_rfl) Tryz.ntmps176 rfl (by simp only [List.length_cons,List.length_nil];decide) (by simp only [lowL,AV.low,ldL];rfl) ?_;conv=>whnf
 have hm : (l.sacks.map skA).length = l.sacks.length:=List.length_map ..
 repeat' ((with_reducible refine XInt.a ?_);conv=>whnf)
 refine zf.ret (in_c _ _ _) ?_
 conv=>whnf
 refine XOut.bool ?_
 simp
theorem pair_in (l : Ld) (p : Int × Int) (hx : l.sacks.length <= 100000) : Comp Tryz.prog 175 [prA p,.pim (ldC l)] (.bool (inB p.1 0 (l.sacks.length - 1) && inB p.2 0 (l.sacks.length - 1))):=by
 refine Comp.body (T:=tab) (res:=[.tmp 3]) za [] Tryz.func175 rfl (by kernel_rfl) Tryz.ntmps175 rfl (by simp only [List.length_cons,List.length_nil];decide) (by simp only [lowL,AV.low,prL,vY];rfl) ?_;conv=>whnf
 repeat' ((with_reducible apply XArr.pim0);conv=>whnf)
 refine zf.ret (sack_c l _ hx) ?_
 conv=>whnf
 refine XBr.mk' ?_ ?_ <;> intro h <;> (conv=>whnf)
 ·skip
  repeat' first|((first|(with_reducible apply XBr.tt)|(with_reducible apply XArr.pim1));conv=>whnf)|fail
  refine zf.ret (sack_c l _ hx) ?_
  conv=>whnf
  repeat' ((with_reducible apply XBr.tt);conv=>whnf)
  refine XOut.bool ?_
  simp [h]
 ·skip
  repeat' ((with_reducible apply XBr.ff);conv=>whnf)
  refine XOut.bool ?_
  simp [h]
def prIn (l : Ld) (p : Int × Int) : Bool:=inB p.1 0 (l.sacks.length - 1) && inB p.2 0 (l.sacks.length - 1)
def vx (l : Ld) : Int:=
 if 9 < l.sacks.length \/ 8 < l.apart.length \/ 8 < l.wth.length then 2
 else if (inB l.bears 1 100 && inB l.shrink 0 90) = false then 3
 else if (l.sacks.all fun s=>inB s.m 1 100 && inB s.o 0 5) = false then 3
 else if ((l.apart ++ l.wth).all (prIn l)) = false then 1
 else if ((l.apart ++ l.wth).all fun p=>p.1 != p.2) = false then 5 else 0
theorem check_c (l : Ld) (hw : l.nla = true -> l.apart = []) (h1 : l.sacks.length <= 100000) (h2 : l.apart.length <= 1000) (h3 : l.wth.length <= 1000) : Comp Tryz.prog 30 [ldA l] (.int .i64 (vx l)):=by
 refine Comp.body (T:=tab) (res:=[.tmp 2]) za [] Tryz.func30 rfl (by kernel_rfl) Tryz.ntmps30 rfl (by simp only [List.length_cons,List.length_nil];decide) (by simp only [lowL,AV.low,ldL];rfl) ?_;conv=>whnf
 have hA : ∀ n,Froz Tryz.prog [.grow 65 n ((l.apart ++ l.wth).map prA)] (.gr 0 (l.apart ++ l.wth).length) (.sl n ((l.apart ++ l.wth).map prA)):=fun n=>Froz.grow rfl (by simp) (vP _)
 cases hn : l.nla with
 | false =>
   apply Walk.drawX za zi [] [2,5] (hsC [[],[.grow 65 false (l.apart.map prA)],[.grow 65 false ((l.apart ++ l.wth).map prA)]]) [_,_,.gr 0 l.apart.length,_,_,.gr 0 (l.apart ++ l.wth).length,_] (by kernel_rfl) rfl
   ·skip
    repeat' first|((with_reducible first|apply Chk.go|apply ChkA.go);conv=>whnf)|(with_reducible first|apply XAnd.mk|exact trivial)|((with_reducible refine zj.mk ?_ ?_);(first | omega | rfl | decide|exact ⟨rfl,by decide,rfl⟩|exact yx _|exact z5 _|exact z4 _|(unfold Room;constructor <;> ((try simp) <;> omega))|exact ⟨rfl,by simp only [List.length_map],by unfold Room;constructor <;> ((try simp) <;> omega)⟩|exact ⟨by omega,by omega,by unfold Room;constructor <;> ((try simp) <;> omega)⟩);conv=>whnf)|(exact zm.mk rfl rfl)|(exact zm.mk (by first | rfl|(simp only [List.map_append,List.length_append,List.length_map];done)|(simp only [List.map_append,List.length_append,List.length_map];rfl)) (by first | rfl|(simp only [List.map_append];done)|(simp only [List.map_append];rfl)))|fail
    ·refine zf.inl (T:=tab) (res:=[.tmp 2]) za [] Tryz.func171 rfl (by kernel_rfl) Tryz.ntmps171 rfl (by simp only [List.length_append,List.length_cons,List.length_nil];decide) ?_;conv=>whnf
     refine XBr.no hn ?_
     conv=>whnf
     repeat' first|((with_reducible refine zj.mk ?_ ?_);(first | omega | rfl | decide|exact ⟨rfl,by decide,rfl⟩|exact yx _|exact z5 _|exact z4 _|(unfold Room;constructor <;> ((try simp) <;> omega))|exact ⟨rfl,by simp only [List.length_map],by unfold Room;constructor <;> ((try simp) <;> omega)⟩|exact ⟨by omega,by omega,by unfold Room;constructor <;> ((try simp) <;> omega)⟩);conv=>whnf)|(exact zm.mk (by first | rfl|(simp only [List.map_append,List.length_append,List.length_map];done)|(simp only [List.map_append,List.length_append,List.length_map];rfl)) (by first | rfl|(simp only [List.map_append];done)|(simp only [List.map_append];rfl)))|fail
   ·skip
    repeat' first|((with_reducible first|apply Chk.go|apply ChkF.go|apply ChkB.go);conv=>whnf)|(with_reducible first|apply XAnd.mk|exact trivial)|(exact zm.mk rfl rfl)|fail
   ·skip
    conv=>whnf
    repeat' first|((with_reducible first|apply XBr.tt|apply XBr.ff);conv=>whnf) | with_reducible apply XBr.not|((with_reducible apply XBr.dec) <;> (intro h;first|(exfalso;omega)|((try simp only [List.length_map] at h);first|(exfalso;omega)|(conv=>whnf))))|(refine zf.ret (in_c _ _ _) ?_;conv=>whnf)|(refine zf.ret (zaJ l.nls l.sacks 173 [] _ rfl h1 fun x _=>sack_in x) ?_;conv=>whnf)|(refine zf.lend (wW _ (l.apart ++ l.wth) 175 [.pim (ldC l)] (prIn l) (by simp only [lowL,AV.low,vY];rfl) (by simp;omega) fun x _=>pair_in l x h1) (.cons (hA _) (.cons (.low (by simp only [lowL,AV.low,vY];rfl)) .nil)) rfl ?_;conv=>whnf)|(refine zf.lend (wW _ (l.apart ++ l.wth) 177 [] _ rfl (by simp;omega) fun x _=>pair_ne x) (.cons (hA _) (.cons (.low rfl) .nil)) rfl ?_;conv=>whnf)|((with_reducible refine XBr.mk' (fun h=>?_) fun h=>?_) <;> conv=>whnf)|fail
    all_goals ((try clear ha);clear hw hA hn;refine XOut.int ?_;unfold vx;(repeat' split) <;> first | rfl|(exfalso;omega) | simp_all)
 | true =>
   have ha:=hw hn
   apply Walk.drawX za zi [] [5] (hsC [[],[.grow 65 l.wth.isEmpty ((l.apart ++ l.wth).map prA)]]) [_,_,.sl true [],_,_,.gr 0 (l.apart ++ l.wth).length,_] (by kernel_rfl) rfl
   ·skip
    repeat' first|((with_reducible first|apply Chk.go|apply ChkA.go);conv=>whnf)|(with_reducible first|apply XAnd.mk|exact trivial)|((with_reducible refine zj.mk ?_ ?_);(first | omega | rfl | decide|exact ⟨rfl,by decide,rfl⟩|exact yx _|exact z5 _|exact z4 _|(unfold Room;constructor <;> ((try simp) <;> omega))|exact ⟨rfl,by simp only [List.length_map],by unfold Room;constructor <;> ((try simp) <;> omega)⟩|exact ⟨by omega,by omega,by unfold Room;constructor <;> ((try simp) <;> omega)⟩);conv=>whnf)|(exact zm.mk rfl rfl)|fail
    ·refine zf.inl (T:=tab) (res:=[.tmp 2]) za [] Tryz.func171 rfl (by kernel_rfl) Tryz.ntmps171 rfl (by simp only [List.length_append,List.length_cons,List.length_nil];decide) ?_;conv=>whnf
     refine XBr.yes hn ?_
     conv=>whnf
     repeat' (exact zm.mk rfl rfl)
    exact zm.mk (by rw [ha];simp) (by rw [ha,List.nil_append,List.isEmpty_map];rfl)
   ·skip
    repeat' first|((with_reducible first|apply Chk.go|apply ChkF.go|apply ChkB.go);conv=>whnf)|(with_reducible first|apply XAnd.mk|exact trivial)|(exact zm.mk rfl rfl)|fail
   ·skip
    conv=>whnf
    repeat' first|((with_reducible first|apply XBr.tt|apply XBr.ff);conv=>whnf) | with_reducible apply XBr.not|((with_reducible apply XBr.dec) <;> (intro h;first|(exfalso;omega)|((try simp only [List.length_map] at h);first|(exfalso;omega)|(conv=>whnf))))|(refine zf.ret (in_c _ _ _) ?_;conv=>whnf)|(refine zf.ret (zaJ l.nls l.sacks 173 [] _ rfl h1 fun x _=>sack_in x) ?_;conv=>whnf)|(refine zf.lend (wW _ (l.apart ++ l.wth) 175 [.pim (ldC l)] (prIn l) (by simp only [lowL,AV.low,vY];rfl) (by simp;omega) fun x _=>pair_in l x h1) (.cons (hA _) (.cons (.low (by simp only [lowL,AV.low,vY];rfl)) .nil)) rfl ?_;conv=>whnf)|(refine zf.lend (wW _ (l.apart ++ l.wth) 177 [] _ rfl (by simp;omega) fun x _=>pair_ne x) (.cons (hA _) (.cons (.low rfl) .nil)) rfl ?_;conv=>whnf)|((with_reducible refine XBr.mk' (fun h=>?_) fun h=>?_) <;> conv=>whnf)|fail
    all_goals ((try clear ha);clear hw hA hn;refine XOut.int ?_;unfold vx;(repeat' split) <;> first | rfl|(exfalso;omega) | simp_all)
def zL (l : Ld) (s : Sk) : Int:=s.m - s.m * l.shrink / 100
theorem weight_c (l : Ld) (s : Sk) (h : 0 <= s.m) (h' : s.m <= 100) (h2 : 0 <= l.shrink) (h3 : l.shrink <= 100) : Comp Tryz.prog 133 [ldA l,skA s] (.int .i64 (zL l s)):=by
 refine Comp.body (T:=tab) (res:=[.tmp 4]) za [] Tryz.func133 rfl (by kernel_rfl) Tryz.ntmps133 rfl (by simp only [List.length_cons,List.length_nil];decide) (by simp only [lowL,AV.low,ldL,skL];rfl) ?_;conv=>whnf
 have e1 : 0 <= s.m * l.shrink:=Int.mul_nonneg h h2
 have e2 : s.m * l.shrink <= 100 * 100:=Int.mul_le_mul h' h3 h2 (by omega)
 have e3 : (s.m * l.shrink).tdiv 100 = (s.m * l.shrink) / 100:=Int.tdiv_eq_ediv_of_nonneg e1
 repeat' first|((with_reducible refine XInt.a ?_);conv=>whnf)|((with_reducible refine zj.mk ?_ ?_);(first | omega | rfl | decide|exact ⟨rfl,by decide,rfl⟩|exact yx _|exact z5 _|exact z4 _|(unfold Room;constructor <;> ((try simp) <;> omega))|exact ⟨rfl,by simp only [List.length_map],by unfold Room;constructor <;> ((try simp) <;> omega)⟩|exact ⟨by omega,by omega,by unfold Room;constructor <;> ((try simp) <;> omega)⟩);conv=>whnf)|fail
 ·refine XOut.int ?_
  rw [e3];rfl
def kL : Nat -> Nat -> Nat -> List Int
 | 0,_,_=>[]
 | f + 1,i,s=>if s = 0 then [] else if s % 2 = 1 then (i : Int) :: kL f (i + 1) (s / 2) else kL f (i + 1) (s / 2)
def bits (s : Nat) : List Int:=kL 62 0 s
def diff (a b : Nat) : Nat:=a ^^^ (a &&& b)
def natA (n : Nat) : AV:=.int .i64 n
structure Dk where
 l : Ld
 hv : List Nat
 nd : List Nat
theorem vR : ∀ (f i s k : Nat),s < 2 ^ k -> ∀ x ∈ kL f i s,(i : Int) <= x /\ x < (i + k : Nat)
 | 0,_,_,_,_,x,hx=>by simp [kL] at hx
 | f + 1,i,s,k,hs,x,hx=>by
   unfold kL at hx
   split at hx
   ·simp at hx
   ·rename_i h0
    cases k with
    | zero=>simp at hs;omega
    | succ k =>
      have ih:=vR f (i + 1) (s / 2) k (by rw [Nat.pow_succ] at hs;omega)
      split at hx
      ·rcases List.mem_cons.1 hx with rfl | hx
       ·omega
       ·have:=ih x hx;omega
      ·have:=ih x hx;omega
def ya (b : List Nat) (p : Int × Int) : List Nat:=
 let all:=b.getD p.1.toNat 0 ||| b.getD p.2.toNat 0
 b.mapIdx fun i x=>if all / 2 ^ i % 2 = 1 then x ||| all else x
def hsK (H : List Blk) : List Bool -> List Blk:=fun _=>H
theorem fY (b : List Nat) (p : Int × Int) : (ya b p).length = b.length:=by simp [ya]
theorem XInt.eq {x y : Int} {k : AV -> Prop} (e : x = y) (h1 : -9223372036854775808 <= y) (h2 : y <= 9223372036854775807) (h : k (.int .i64 y)) : XInt .i64 x k:=by subst e;exact .i64 h1 h2 h
theorem pow9 {n : Nat} (h : n <= 9) : 2 ^ n <= 512 /\ 0 < 2 ^ n:=⟨Nat.pow_le_pow_right (n:=2) (by omega) h,Nat.two_pow_pos n⟩
theorem ji.mono {P : Program} {i : Nat} {rs : List AV} {H : List Blk} {k k' : AV -> List Blk -> Prop} (x : ji P i rs H k) (hk : ∀ r H',k r H' -> k' r H') : ji P i rs H k':=
 ⟨x.1,fun E h β w b vs s r e=>let ⟨f,tmps,assign,body,h1,h2⟩:=x.2 E h β w b vs s r e;⟨f,tmps,assign,body,h1,h2.mono fun _ _=>Ends.mono hk⟩⟩
def wq (P : Program) (i : Nat) (K : List Blk -> Prop) : List Nat -> List Blk -> Prop
 | [],H=>K H
 | c :: cs,H=>yK P i [natA c] H fun r H'=>(r = .bool true /\ wq P i K cs H') \/ (r = .bool false /\ K H')
def sumW : List Nat -> Nat -> Nat
 | [],_=>0
 | w :: ws,s=>(if s % 2 = 1 then w else 0) + sumW ws (s / 2)
def wt (l : Ld) (s : Sk) : Nat:=(zL l s).toNat
def wts (l : Ld) : List Nat:=l.sacks.map (wt l)
theorem wb : ∀ ws : List Nat,sumW ws 0 = 0
 | []=>rfl
 | w :: ws=>by unfold sumW;rw [Nat.zero_div,wb ws];rfl
structure LdOk (l : Ld) : Prop where
 n : l.sacks.length <= 9
 na : l.apart.length <= 8
 nw : l.wth.length <= 8
 b1 : 1 <= l.bears
 b2 : l.bears <= 100
 s1 : 0 <= l.shrink
 s2 : l.shrink <= 90
 sk : ∀ s ∈ l.sacks,1 <= s.m /\ s.m <= 100 /\ 0 <= s.o /\ s.o <= 5
 ap : ∀ p ∈ l.apart,0 <= p.1 /\ p.1 < l.sacks.length /\ 0 <= p.2 /\ p.2 < l.sacks.length /\ p.1 ≠ p.2
 wp : ∀ p ∈ l.wth,0 <= p.1 /\ p.1 < l.sacks.length /\ 0 <= p.2 /\ p.2 < l.sacks.length /\ p.1 ≠ p.2
theorem qp {n lo hi : Int} : inB n lo hi = true ↔ lo <= n /\ n <= hi:=by simp [inB]
theorem gY (l : Ld) : vx l = 0 ↔ LdOk l:=by
 unfold vx
 constructor
 ·intro h
  split at h
  ·cases h
  rename_i h1
  split at h
  ·cases h
  rename_i h2
  split at h
  ·cases h
  rename_i h3
  split at h
  ·cases h
  rename_i h4
  split at h
  ·cases h
  rename_i h5
  simp only [Bool.not_eq_false,Bool.and_eq_true,qp,List.all_eq_true,prIn,List.mem_append,bne_iff_ne] at h2 h3 h4 h5
  refine ⟨by omega,by omega,by omega,by omega,by omega,by omega,by omega,fun s hs=>?_,fun p hp=>?_,fun p hp=>?_⟩
  ·have:=h3 s hs;omega
  ·have a:=h4 p (.inl hp);have b:=h5 p (.inl hp);exact ⟨by omega,by omega,by omega,by omega,b⟩
  ·have a:=h4 p (.inr hp);have b:=h5 p (.inr hp);exact ⟨by omega,by omega,by omega,by omega,b⟩
 ·intro o
  rw [if_neg (by have:=o.n;have:=o.na;have:=o.nw;omega)]
  rw [if_neg (by simp only [Bool.not_eq_false,Bool.and_eq_true,qp];have:=o.b1;have:=o.b2;have:=o.s1;have:=o.s2;omega)]
  rw [if_neg (by simp only [Bool.not_eq_false,Bool.and_eq_true,qp,List.all_eq_true];intro s hs;have:=o.sk s hs;omega)]
  rw [if_neg (by
   simp only [Bool.not_eq_false,Bool.and_eq_true,qp,List.all_eq_true,prIn,List.mem_append]
   rintro p (hp | hp)
   ·have:=o.ap p hp;omega
   ·have:=o.wp p hp;omega)]
  rw [if_neg (by
   simp only [Bool.not_eq_false,List.all_eq_true,List.mem_append,bne_iff_ne]
   rintro p (hp | hp)
   ·exact (o.ap p hp).2.2.2.2
   ·exact (o.wp p hp).2.2.2.2)]
theorem wt_le {l : Ld} (o : LdOk l) {s : Sk} (hs : s ∈ l.sacks) : (wt l s : Int) = zL l s /\ 1 <= wt l s /\ wt l s <= 100:=by
 have h:=o.sk s hs
 have h1:=o.s1
 have h2:=o.s2
 have e : s.m * l.shrink <= s.m * 90:=Int.mul_le_mul_of_nonneg_left h2 (by omega)
 have e0 : 0 <= s.m * l.shrink:=Int.mul_nonneg (by omega) h1
 unfold wt zL
 omega
theorem wq.run {P : Program} {i : Nat} {H : List Blk} {K : List Blk -> Prop} {S : Type} (upd : List Blk -> S -> List Blk) (step : S -> Nat -> S) (I : S -> List Nat -> Prop)
  (x : ∀ s c cs,I s (c :: cs) -> yK P i [natA c] (upd H s) (fun r H'=>r = .bool true /\ H' = upd H (step s c)) /\ I (step s c) cs) :
  ∀ (cs : List Nat) (s : S),I s cs -> K (upd H (cs.foldl step s)) -> wq P i K cs (upd H s)
 | [],s,_,hk=>hk
 | c :: cs,s,hI,hk=>by
   obtain ⟨h1,h2⟩:=x s c cs hI
   refine ⟨ji.mono h1.o ?_⟩
   rintro r H' ⟨rfl,rfl⟩
   exact .inl ⟨rfl,wq.run upd step I x cs _ h2 hk⟩
theorem wq.go {P : Program} {i : Nat} {H : List Blk} {K : List Blk -> Prop} {S : Type} {cs : List Nat} (upd : List Blk -> S -> List Blk) (step : S -> Nat -> S) (I : S -> List Nat -> Prop) (s0 : S) (hH : upd H s0 = H)
  (x : ∀ s c cs,I s (c :: cs) -> yK P i [natA c] (upd H s) (fun r H'=>r = .bool true /\ H' = upd H (step s c)) /\ I (step s c) cs) (hI : I s0 cs) (hk : K (upd H (cs.foldl step s0))) : wq P i K cs H:=by
 have:=wq.run upd step I x cs s0 hI hk
 rwa [hH] at this
structure MOk (m : List (Int × Nat)) : Prop where
 z : look 0 m = some 0
 le : ∀ k v,look k m = some v -> v <= 10
theorem y6 (a b i : Nat) : (diff a b).testBit i = (a.testBit i && !b.testBit i):=by
 unfold diff;simp only [Nat.testBit_xor,Nat.testBit_and]
 cases a.testBit i <;> cases b.testBit i <;> rfl
def Sub (a b : Nat) : Prop:=∀ i,a.testBit i = true -> b.testBit i = true
theorem Sub.le {a b : Nat} (h : Sub a b) : a <= b:=by
 have : a &&& b = a:=by
  apply Nat.eq_of_testBit_eq;intro i;rw [Nat.testBit_and]
  cases e : a.testBit i
  ·rfl
  ·rw [h i e];rfl
 rw [<- this];exact Nat.and_le_right
structure LS where
 left : Nat
 m : List (Int × Nat)
 out : List Nat
theorem MOk.zero : MOk [(0,0)]:=⟨rfl,fun k v h=>by simp only [look] at h;split at h <;> cases h;omega⟩
theorem Sub.zero (a : Nat) : Sub 0 a:=fun i h=>by rw [Nat.zero_testBit] at h;cases h
structure LdW (l : Ld) : Prop where
 w : l.nla = true -> l.apart = []
 h1 : l.sacks.length <= 100000
 h2 : l.apart.length <= 1000
 h3 : l.wth.length <= 1000
def zJ (l : Ld) (out : List Int) (s : Sk) : List Int:=out.set s.o.toNat (out.getD s.o.toNat 0 + zL l s)
def jL (l : Ld) : List Int:=l.sacks.foldl (zJ l) (List.replicate 6 0)
def qo (n : Nat) (out : List Int) : Prop:=out.length = 6 /\ ∀ i,0 <= out.getD i 0 /\ out.getD i 0 <= 100 * n
theorem qE {α : Type} (xs : List α) (i j : Nat) (v d : α) : (xs.set i v).getD j d = if i = j /\ i < xs.length then v else xs.getD j d:=by
 simp only [List.getD_eq_getElem?_getD,List.getElem?_set]
 by_cases h : i = j
 ·subst h
  by_cases h2 : i < xs.length
  ·simp [h2]
  ·simp [h2]
 ·simp [h]
theorem zaP {l : Ld} (o : LdOk l) {n : Nat} {out : List Int} {s : Sk} (hs : s ∈ l.sacks) (h : qo n out) : qo (n + 1) (zJ l out s):=by
 obtain ⟨h1,h2⟩:=h
 refine ⟨by simp [zJ,h1],fun i=>?_⟩
 obtain ⟨e1,e2,e3⟩:=wt_le o hs
 have a:=h2 i
 have b:=h2 s.o.toNat
 unfold zJ;rw [qE]
 split
 ·omega
 ·omega
theorem wC {l : Ld} (o : LdOk l) : ∀ n,n <= l.sacks.length -> qo n ((l.sacks.take n).foldl (zJ l) (List.replicate 6 0))
 | 0,_=>⟨rfl,fun i=>by
   show 0 <= (List.replicate 6 (0 : Int)).getD i 0 /\ (List.replicate 6 (0 : Int)).getD i 0 <= _
   rw [List.getD_eq_getElem?_getD,List.getElem?_replicate];split <;> simp⟩
 | n + 1,h=>by
   rw [ja (by omega),List.foldl_append]
   exact zaP o (zn (by omega)) (wC o n (by omega))
theorem parts_ok {l : Ld} (o : LdOk l) : qo 9 (jL l):=by
 have h:=wC o l.sacks.length (Nat.le_refl _)
 rw [List.take_length] at h
 have:=o.n
 exact ⟨h.1,fun i=>by have:=h.2 i;unfold jL;omega⟩
theorem parts_c (l : Ld) (o : LdOk l) : Comp Tryz.prog 135 [ldA l] (.sl false (ints (jL l))):=by
 refine Comp.body' (T:=tab) (res:=[.tmp 2]) za [] Tryz.func135 rfl (by kernel_rfl) Tryz.ntmps135 rfl (by simp only [List.length_cons,List.length_nil];decide) (by simp only [lowL,ldL];rfl) ?_;conv=>whnf
 repeat' ((with_reducible refine zj.mk ?_ ?_);(first | omega | rfl | decide|exact ⟨rfl,by decide,rfl⟩|exact yx _|exact z5 _|exact z4 _|(unfold Room;constructor <;> ((try simp) <;> omega))|exact ⟨rfl,by simp only [List.length_map],by unfold Room;constructor <;> ((try simp) <;> omega)⟩|exact ⟨by omega,by omega,by unfold Room;constructor <;> ((try simp) <;> omega)⟩);conv=>whnf)
 refine Walk.loopG za [] (fun j : Nat=>j <= l.sacks.length) (fun j=>[(1,.pim (ldC l)),(3,.gr 0 6),(8,.sl l.nls (l.sacks.map skA)),(9,natA l.sacks.length),(10,natA j)])
  (fun j=>[.grow 3 false (ints ((l.sacks.take j).foldl (zJ l) (List.replicate 6 0)))]) (fun j=>l.sacks.length - j) 0 (by omega) rfl ⟨rfl,rfl,rfl,by simp only [List.length_map];rfl,rfl,trivial⟩ ?_ ?_ ?_
 ·intro j _
  constructor
  ·intro x hx;simp at hx;subst hx;exact lowI _
  ·intro p hp;simp at hp;rcases hp with rfl | rfl | rfl | rfl | rfl <;> first|exact vY _|exact lowSk _ | rfl
 ·intro j _;simp
 intro j hj
 have pk:=wC o j hj
 have hn:=o.n
 have hnx : j < l.sacks.length -> (l.sacks.take (j + 1)).foldl (zJ l) (List.replicate 6 0) = zJ l ((l.sacks.take j).foldl (zJ l) (List.replicate 6 0)) (l.sacks.getD j default):=fun h=>by
  rw [ja h,List.foldl_append];rfl
 have hfin : j = l.sacks.length -> (l.sacks.take j).foldl (zJ l) (List.replicate 6 0) = jL l:=fun h=>by rw [h,List.take_length];rfl
 generalize hog : (l.sacks.take j).foldl (zJ l) (List.replicate 6 0) = out at pk hnx hfin
 conv=>whnf
 repeat' first|(refine XIx.a ?_;conv=>whnf)|((with_reducible apply XBr.dec) <;> (intro h;first|(exfalso;omega)|((try simp only [List.length_map] at h);first|(exfalso;omega)|(conv=>whnf))))|fail
 ·have hnx:=hnx (by omega)
  have hsm:=zn (xs:=l.sacks) (i:=j) (d:=default) (by omega)
  generalize l.sacks.getD j default = s at hsm hnx
  have hok:=o.sk s hsm
  have hwl:=wt_le o hsm
  have hs1:=o.s1
  have hs2:=o.s2
  have pv:=pk.2 s.o.toNat
  apply Walk.drawX za zi [] [10] (hsV _ [id,fun H=>H.set 0 (.grow 3 false (ints (zJ l out s)))]) [_,_,_,_,_,_,_,_,_,_,_] (by kernel_rfl) rfl
  ·skip
   repeat' first|((with_reducible first|apply Chk.go|apply ChkA.go);conv=>whnf)|(with_reducible first|apply XAnd.mk|exact trivial)|(exact zm.mk rfl rfl)|((first|refine zj.mk ⟨by rw [List.length_map,pk.1],rfl,by omega,by omega⟩ ?_|refine XGet.map (by rw [pk.1]) (by omega) ?_|refine zf.ret (weight_c l s (by omega) (by omega) (by omega) (by omega)) ?_|(refine XInt.i64 (by show _ <= out.getD _ 0 + _;omega) (by show out.getD _ 0 + _ <= _;omega) ?_)|refine XPut.map (out.getD s.o.toNat 0 + zL l s) rfl (by rw [pk.1]) (by omega) ?_);conv=>whnf)|fail
  ·skip
   repeat' first|((with_reducible first|apply ChkF.go|apply ChkB.go);conv=>whnf)|(with_reducible first|apply XAnd.mk|exact trivial)|fail
  ·conv=>whnf
   repeat' ((with_reducible refine XInt.a ?_);conv=>whnf)
   refine zq.go (j + 1) [.cells [.int .i64 s.m,.int .i64 s.o]] (by omega) (by omega) ?_ ⟨rfl,rfl,rfl,rfl,rfl,trivial⟩
   rw [hnx];rfl
 ·rw [hfin (by omega)]
  exact ⟨Froz.grow rfl (by rw [List.length_map];exact (parts_ok o).1) (lowI _)⟩
theorem cEq (xs : List Int) (h : xs.length <= 100000) : Comp Tryz.prog 72 [.sl false (ints xs),.sl false (ints xs)] (.bool true):=by
 have:=eq_int false false xs xs h
 rwa [show (xs == xs) = true from beq_self_eq_true xs] at this
abbrev bytes (xs : List Int) : List AV:=xs.map (.int .u8)
theorem lowBy {n : Nat} (xs : List Int) : lowL n (bytes xs) = true:=zT (fun _=>rfl) xs
structure Hp where
 nl : Bool
 bs : List Int
 nx : Nat
 rd : Int
 deriving Inhabited
def hpC (h : Hp) : Blk:=.cells [.sl h.nl (bytes h.bs),.int .i64 h.nx,.int .u32 h.rd]
structure Hp.Ok (h : Hp) : Prop where
 l : h.bs.length < 9223372036854775808
 n : h.nx < h.bs.length \/ h.nx = 0
def hpN (h : Hp) : Int:=IntKind.u32.wrap (40503 * IntKind.u32.wrap (h.rd + 1))
def hpM (h : Hp) : Int:=if h.nx < h.bs.length then IntKind.u32.wrap (hpN h + IntKind.u32.wrap (331 * IntKind.u32.wrap (h.bs.getD h.nx default))) else hpN h
def hpV' (n : Int) : Int:=iand .u32 (ixor .u32 n (n.fdiv (2 ^ (min (9 : Int).toNat IntKind.u32.bits)))) 32767
def hpV (h : Hp) : Int:=hpV' (hpM h)
def hpS (h : Hp) : Hp:=if h.bs.length <= h.nx + 1 then ⟨h.nl,h.bs,0,IntKind.u32.wrap (h.rd + 1)⟩ else ⟨h.nl,h.bs,h.nx + 1,h.rd⟩
theorem fH (n : Int) : 0 <= hpV' n /\ hpV' n <= 32767:=by
 unfold hpV' iand
 have h1 : (BitVec.ofInt IntKind.u32.bits (ixor .u32 n (n.fdiv (2 ^ (min (9 : Int).toNat IntKind.u32.bits)))) &&& BitVec.ofInt IntKind.u32.bits 32767).toNat <= 32767:=by
  rw [BitVec.toNat_and]
  exact Nat.le_trans Nat.and_le_right (by decide)
 generalize (BitVec.ofInt IntKind.u32.bits (ixor .u32 n (n.fdiv (2 ^ (min (9 : Int).toNat IntKind.u32.bits)))) &&& BitVec.ofInt IntKind.u32.bits 32767).toNat = m at h1 ⊢
 simp only [IntKind.wrap,IntKind.bits,IntKind.signed]
 constructor <;> simp <;> omega
theorem zD {h : Hp} (o : h.Ok) : (hpS h).Ok:=by
 unfold hpS;split
 ·exact ⟨o.l,.inr rfl⟩
 ·exact ⟨o.l,.inl (by dsimp only;omega)⟩
theorem jk {n : Nat} (h : Hp) : (hpC h).low n = true:=by simp only [hpC,Blk.low,lowL,AV.low,lowBy];rfl
theorem hpC_ren (f : Nat -> Nat) (h : Hp) : (hpC h).ren f = hpC h:=Blk.ren_low (n:=0) (fun i hi=>by omega) (jk h)
theorem XInt.w {q : IntKind} {x : Int} {k : AV -> Prop} (h : k (.int q (q.wrap x))) : XInt q x k:=⟨h⟩
def HpOk (f : FuncId) (qs : List AV) (h : Hp) (r : AV) (h' : Hp) : Prop:=
 lowL 0 qs = true /\ zE Tryz.prog f (.ptr 0 0 :: qs) [hpC h] fun r' H'=>r' = r /\ H' = [hpC h']
theorem zf.hp {f : FuncId} {qs : List AV} {h h' : Hp} {r : AV} (x : HpOk f qs h r h') (hr : r.low 0 = true) {H : List Blk} {k : AV -> List Blk -> Prop} {j : Nat} (h0 : lget H j = some (hpC h))
  (hk : k r (H.set j (hpC h'))) : zf Tryz.prog f (.ptr j 0 :: qs) H k:=by
 constructor
 have e:=zE.frame (ρ:=fun i=>j + i) (H:=H) (k:=k) x.2 (fun a b _ _ h=>by have : j + a = j + b:=h;omega) ?_ (fun y hy=>by simp at hy;subst hy;exact jk h) ?_ ?_
 ·have hd : renL (fun i=>j + i) qs = qs:=vm x.1
  rw [List.map_cons,<- zt,hd] at e
  exact e
 ·intro i x1 hi
  rw [zl] at h0
  rcases i with _ | i
  ·simp only [List.getElem?_cons_zero,Option.some.injEq] at hi;subst hi
   rw [hpC_ren];exact h0
  ·simp at hi
 ·simp only [lowL,AV.low,fB (Nat.zero_le _) x.1];rfl
 ·rintro r1 H1' ⟨rfl,rfl⟩
  rw [zl] at h0
  have hj:=(List.getElem?_eq_some_iff.1 h0).1
  refine ⟨rfl,H.set j (hpC h'),by simp,fun i x1 hi=>?_,fun q hq=>?_,?_⟩
  ·rcases i with _ | i
   ·simp only [List.getElem?_cons_zero,Option.some.injEq] at hi;subst hi
    rw [hpC_ren];simp [hj]
   ·simp at hi
  ·exact List.getElem?_set_ne (by have:=hq 0 (by simp);simpa using this)
  ·rw [AV.ren_low (n:=0) (fun i hi=>by omega) hr];exact hk
theorem hpM_lt {u : Hp} (h : (u.nx : Int) < u.bs.length) : hpM u = IntKind.u32.wrap (hpN u + IntKind.u32.wrap (331 * IntKind.u32.wrap (u.bs.getD u.nx default))):=if_pos (by omega)
theorem hpM_ge {u : Hp} (h : ¬ (u.nx : Int) < u.bs.length) : hpM u = hpN u:=if_neg (by omega)
theorem hpS_end {u : Hp} (h : (u.bs.length : Int) <= u.nx + 1) : [hpC (hpS u)] = [Blk.cells [AV.sl u.nl (bytes u.bs),AV.int IntKind.i64 0,AV.int IntKind.u32 (IntKind.u32.wrap (u.rd + 1))]]:=by
 unfold hpS;rw [if_pos (by omega)];rfl
theorem hpS_on {u : Hp} (h : ¬ (u.bs.length : Int) <= u.nx + 1) : [hpC (hpS u)] = [Blk.cells [AV.sl u.nl (bytes u.bs),AV.int IntKind.i64 (u.nx + 1),AV.int IntKind.u32 u.rd]]:=by
 unfold hpS;rw [if_neg (by omega)];rfl
theorem i64_small {n : Int} (h1 : 0 <= n) (h2 : n <= 32767) : IntKind.i64.wrap n = n:=by
 simp only [IntKind.wrap,IntKind.bits,IntKind.signed];simp;omega
theorem gm {u : Hp} {n : Int} {H1 : List Blk} (hn : hpM u = n) (hS : [hpC (hpS u)] = H1) : XCut [hpC u].length [] H1 (.int .i64 (IntKind.i64.wrap (hpV' n))) fun r' H'=>r' = .int .i64 (hpV u) /\ H' = [hpC (hpS u)]:=by
 subst hn;subst hS
 obtain ⟨h1,h2⟩:=fH (hpM u)
 rw [i64_small h1 h2]
 exact XCut.mk' [hpC (hpS u)] [] rfl rfl (fun x hx=>by simp only [List.mem_cons,List.not_mem_nil,or_false] at hx;subst hx;exact jk _) rfl ⟨rfl,rfl⟩
theorem pick_c (u : Hp) (o : u.Ok) : HpOk 302 [] u (.int .i64 (hpV u)) (hpS u):=by
 have hl:=o.l
 have hn:=o.n
 refine ⟨rfl,?_⟩
 refine zE.bodyK (T:=tab) (res:=[.tmp 2]) za [] Tryz.func302 rfl (by kernel_rfl) Tryz.ntmps302 rfl (by simp only [List.length_cons,List.length_nil];decide) ?_;conv=>whnf
 repeat' ((refine XInt.w ?_);conv=>whnf)
 apply Walk.drawX za zi [] [] (hsK _) [_,_,_,_,_,_,_,_,_,_] (by kernel_rfl) rfl
 ·skip
  repeat' first|((with_reducible first|apply Chk.go|apply ChkA.go);conv=>whnf)|(with_reducible first|apply XAnd.mk|exact trivial)|(exact zm.mk rfl rfl)|fail
 ·skip
  repeat' first|((with_reducible first|apply ChkF.go|apply ChkB.go);conv=>whnf)|(with_reducible first|apply XAnd.mk|exact trivial)|fail
 ·conv=>whnf
  repeat' first|((with_reducible refine XInt.a ?_);conv=>whnf)|((with_reducible apply XBr.dec) <;> (intro h;first|(exfalso;omega)|((try simp only [List.length_map] at h);first|(exfalso;omega)|(conv=>whnf))))|fail
  ·apply Walk.drawX za zi [] [] (hsK _) [_,_,_,_,_,_,_,_,_,_,_,_,_,_,_] (by kernel_rfl) rfl
   ·skip
    repeat' first|((with_reducible first|apply Chk.go|apply ChkA.go);conv=>whnf)|(refine XIx.a ?_;conv=>whnf)|(with_reducible first|apply XAnd.mk|exact trivial)|(exact zm.mk rfl rfl)|((refine XInt.w ?_);conv=>whnf)|fail
   ·skip
    repeat' first|((with_reducible first|apply ChkF.go|apply ChkB.go);conv=>whnf)|(with_reducible first|apply XAnd.mk|exact trivial)|fail
   ·conv=>whnf
    repeat' ((with_reducible refine XInt.a ?_);conv=>whnf)
    apply Walk.drawX za zi [] [] (hsK _) [_,_,_,_,_,_,_,_,_,_] (by kernel_rfl) rfl
    ·skip
     repeat' first|((with_reducible first|apply Chk.go|apply ChkA.go);conv=>whnf)|(with_reducible first|apply XAnd.mk|exact trivial)|(exact zm.mk rfl rfl)|fail
    ·skip
     repeat' first|((with_reducible first|apply ChkF.go|apply ChkB.go);conv=>whnf)|(with_reducible first|apply XAnd.mk|exact trivial)|fail
    ·conv=>whnf
     repeat' first|((with_reducible apply XBr.dec) <;> (intro h;first|(exfalso;omega)|((try simp only [List.length_map] at h);first|(exfalso;omega)|(conv=>whnf))))|((with_reducible refine zj.mk ?_ ?_);(first | omega | rfl | decide|exact ⟨rfl,by decide,rfl⟩|exact yx _|exact z5 _|exact z4 _|(unfold Room;constructor <;> ((try simp) <;> omega))|exact ⟨rfl,by simp only [List.length_map],by unfold Room;constructor <;> ((try simp) <;> omega)⟩|exact ⟨by omega,by omega,by unfold Room;constructor <;> ((try simp) <;> omega)⟩);conv=>whnf)|((refine XInt.w ?_);conv=>whnf)|fail
     ·exact gm (hpM_lt (by assumption)) (hpS_end h)
     ·exact gm (hpM_lt (by assumption)) (hpS_on h)
  ·skip
   apply Walk.drawX za zi [] [] (hsK _) [_,_,_,_,_,_,_,_,_,_] (by kernel_rfl) rfl
   ·skip
    repeat' first|((with_reducible first|apply Chk.go|apply ChkA.go);conv=>whnf)|(with_reducible first|apply XAnd.mk|exact trivial)|(exact zm.mk rfl rfl)|fail
   ·skip
    repeat' first|((with_reducible first|apply ChkF.go|apply ChkB.go);conv=>whnf)|(with_reducible first|apply XAnd.mk|exact trivial)|fail
   ·conv=>whnf
    repeat' first|((with_reducible apply XBr.dec) <;> (intro h;first|(exfalso;omega)|((try simp only [List.length_map] at h);first|(exfalso;omega)|(conv=>whnf))))|((with_reducible refine zj.mk ?_ ?_);(first | omega | rfl | decide|exact ⟨rfl,by decide,rfl⟩|exact yx _|exact z5 _|exact z4 _|(unfold Room;constructor <;> ((try simp) <;> omega))|exact ⟨rfl,by simp only [List.length_map],by unfold Room;constructor <;> ((try simp) <;> omega)⟩|exact ⟨by omega,by omega,by unfold Room;constructor <;> ((try simp) <;> omega)⟩);conv=>whnf)|((refine XInt.w ?_);conv=>whnf)|fail
    ·exact gm (hpM_ge (by assumption)) (hpS_end h)
def modV (h : Hp) (n : Int) : Int:=(hpV h).tmod (max 1 (n + 1))
theorem zp (h : Hp) (n : Int) : 0 <= modV h n /\ modV h n <= max 0 n:=by
 have hb:=fH (hpM h)
 have h1 : 0 <= hpV h:=hb.1
 unfold modV
 rw [Int.tmod_eq_emod_of_nonneg h1]
 have h2:=Int.emod_nonneg (hpV h) (show max 1 (n + 1) ≠ 0 by omega)
 have h3:=Int.emod_lt_of_pos (hpV h) (show 0 < max 1 (n + 1) by omega)
 omega
theorem hp_end {u u' : Hp} {r : AV} (hr : r.low 1 = true) : XCut [hpC u].length [] [hpC u'] r fun r' H'=>r' = r /\ H' = [hpC u']:=
 XCut.mk' [hpC u'] [] rfl rfl (fun x hx=>by simp only [List.mem_cons,List.not_mem_nil,or_false] at hx;subst hx;exact jk _) hr ⟨rfl,rfl⟩
theorem jm (u : Hp) (n : Int) (o : u.Ok) (h1 : -100000 <= n) (h2 : n <= 100000) : HpOk 178 [.int .i64 n] u (.int .i64 (modV u n)) (hpS u):=by
 refine ⟨rfl,?_⟩
 refine zE.bodyK (T:=tab) (res:=[.tmp 4]) za [] Tryz.func178 rfl (by kernel_rfl) Tryz.ntmps178 rfl (by simp only [List.length_cons,List.length_nil];decide) ?_;conv=>whnf
 refine zf.hp (j:=0) (pick_c u o) rfl rfl ?_
 conv=>whnf
 repeat' first|((with_reducible refine XInt.a ?_);conv=>whnf)|((with_reducible refine zj.mk ?_ ?_);(first | omega | rfl | decide|exact ⟨rfl,by decide,rfl⟩|exact yx _|exact z5 _|exact z4 _|(unfold Room;constructor <;> ((try simp) <;> omega))|exact ⟨rfl,by simp only [List.length_map],by unfold Room;constructor <;> ((try simp) <;> omega)⟩|exact ⟨by omega,by omega,by unfold Room;constructor <;> ((try simp) <;> omega)⟩);conv=>whnf)|fail
 exact hp_end rfl
theorem gC (u : Hp) (lo hi : Int) (o : u.Ok) (h1 : -10000 <= lo) (h2 : lo <= 10000) (h3 : -10000 <= hi) (h4 : hi <= 10000) : HpOk 179 [.int .i64 lo,.int .i64 hi] u (.int .i64 (lo + modV u (hi - lo))) (hpS u):=by
 have hb:=zp u (hi - lo)
 refine ⟨rfl,?_⟩
 refine zE.bodyK (T:=tab) (res:=[.tmp 6]) za [] Tryz.func179 rfl (by kernel_rfl) Tryz.ntmps179 rfl (by simp only [List.length_cons,List.length_nil];decide) ?_;conv=>whnf
 repeat' first|((first|(with_reducible refine XInt.a ?_)|(refine zf.hp (j:=0) (jm u (hi - lo) o (by omega) (by omega)) rfl rfl ?_));conv=>whnf)|fail
 exact hp_end rfl
theorem zO {α : Type} (l : List α) (x : α) : (l ++ [x]).isEmpty = (l.isEmpty && false):=by cases l <;> rfl
def hp0 (nl : Bool) (bs : List Int) : Hp:=⟨nl,bs,0,0⟩
theorem hp0_ok {nl : Bool} {bs : List Int} (h : bs.length < 9223372036854775808) : (hp0 nl bs).Ok:=⟨h,.inr rfl⟩
def Fle (a b : Int × Int) : Prop:=a.1 * b.2 <= b.1 * a.2
theorem Fle.refl (a : Int × Int) : Fle a a:=Int.le_refl _
theorem Fle.trans {a b c : Int × Int} (h1 : Fle a b) (h2 : Fle b c) (ha : 0 <= a.2) (hb : 0 < b.2) (hc : 0 <= c.2) : Fle a c:=by
 unfold Fle at *
 have e1 : a.1 * b.2 * c.2 <= b.1 * a.2 * c.2:=Int.mul_le_mul_of_nonneg_right h1 hc
 have e2 : b.1 * c.2 * a.2 <= c.1 * b.2 * a.2:=Int.mul_le_mul_of_nonneg_right h2 ha
 have e3 : a.1 * c.2 * b.2 <= c.1 * a.2 * b.2:=by
  calc a.1 * c.2 * b.2 = a.1 * b.2 * c.2:=by rw [Int.mul_right_comm]
   _ <= b.1 * a.2 * c.2:=e1
   _ = b.1 * c.2 * a.2:=by rw [Int.mul_right_comm]
   _ <= c.1 * b.2 * a.2:=e2
   _ = c.1 * a.2 * b.2:=by rw [Int.mul_right_comm]
 exact Int.le_of_mul_le_mul_right e3 hb
theorem fU {a b : Nat} (h : ∀ i,a.testBit i = b.testBit i) : a = b:=Nat.eq_of_testBit_eq h
theorem Sub.refl (a : Nat) : Sub a a:=fun _ h=>h
theorem Sub.trans {a b c : Nat} (h : Sub a b) (k : Sub b c) : Sub a c:=fun i x=>k i (h i x)
theorem sub_half {a m : Nat} (h : Sub a m) : Sub (a / 2) (m / 2):=fun i x=>by
 have:=h (i + 1) (by rw [Nat.testBit_succ];exact x)
 rwa [Nat.testBit_succ] at this
theorem sub_odd {a m : Nat} (h : Sub a m) : a % 2 <= m % 2:=by
 have:=h 0
 simp only [Nat.testBit_zero,decide_eq_true_eq] at this
 omega
theorem zaW (s c : Nat) : Sub (diff s c) s:=fun i h=>by rw [y6,Bool.and_eq_true] at h;exact h.1
inductive Pk (R : Nat -> Bool) : Nat -> Nat -> Prop
 | nil : Pk R 0 0
 | cons {n set : Nat} (c : Nat) (hr : R c = true) (hs : Sub c set) (h0 : c ≠ 0) (t : Pk R n (diff set c)) : Pk R (n + 1) set
theorem diff_diff (s a b : Nat) : diff (diff s a) b = diff (diff s b) a:=fU fun i=>by
 simp only [y6];cases s.testBit i <;> cases a.testBit i <;> cases b.testBit i <;> rfl
theorem Pk.first {R : Nat -> Bool} {n set i : Nat} (h : Pk R n set) (hi : set.testBit i = true) : ∃ c k,n = k + 1 /\ R c = true /\ Sub c set /\ c.testBit i = true /\ Pk R k (diff set c):=by
 induction h with
 | nil=>rw [Nat.zero_testBit] at hi;cases hi
 | @cons n set c hr hs h0 t ih =>
   cases hc : c.testBit i
   ·obtain ⟨c',k,h1,h2,h3,h4,h5⟩:=ih (by rw [y6,hi,hc];rfl)
    subst h1
    refine ⟨c',k + 1,rfl,h2,h3.trans (zaW _ _),h4,.cons c hr (fun j hj=>?_) h0 (by rw [diff_diff];exact h5)⟩
    rw [y6,hs j hj]
    cases hc' : c'.testBit j
    ·rfl
    ·have:=h3 j hc';rw [y6,hj,Bool.not_true,Bool.and_false] at this;cases this
   ·exact ⟨c,n,rfl,hr,hs,hc,t⟩
theorem Pk.zero {R : Nat -> Bool} {n : Nat} (h : Pk R n 0) : n = 0:=by
 cases h with
 | nil=>rfl
 | cons c hr hs h0 t=>exact absurd (Nat.le_zero.1 hs.le) h0
def allP (b : List Nat) (p : Int × Int) : Nat:=b.getD p.1.toNat 0 ||| b.getD p.2.toNat 0
theorem kh (b : List Nat) (p : Int × Int) {i : Nat} (hi : i < b.length) : (ya b p).getD i 0 = if (allP b p).testBit i = true then b.getD i 0 ||| allP b p else b.getD i 0:=by
 have e : (allP b p).testBit i = decide ((b.getD p.1.toNat 0 ||| b.getD p.2.toNat 0) / 2 ^ i % 2 = 1):=Nat.testBit_eq_decide_div_mod_eq
 rw [e]
 unfold ya allP
 simp only [List.getD_eq_getElem?_getD,List.getElem?_mapIdx,List.getElem?_eq_getElem hi,Option.map_some,Option.getD_some,decide_eq_true_eq]
theorem wk (b : List Nat) (p : Int × Int) {i : Nat} (hi : ¬ i < b.length) : (ya b p).getD i 0 = 0:=by
 rw [List.getD_eq_getElem?_getD,List.getElem?_eq_none (by rw [fY];omega)];rfl
theorem zag (b : List Nat) (p : Int × Int) (i : Nat) : Sub (b.getD i 0) ((ya b p).getD i 0):=by
 by_cases hi : i < b.length
 ·rw [kh b p hi];split
  ·intro j hj;rw [Nat.testBit_or,hj];rfl
  ·exact Sub.refl _
 ·rw [List.getD_eq_getElem?_getD,List.getElem?_eq_none (by omega)];exact Sub.zero _
def Cl (l : Ld) (c : Nat) : Prop:=∀ p ∈ l.wth,c.testBit p.1.toNat = c.testBit p.2.toNat
def Inv (c : Nat) (b : List Nat) : Prop:=∀ i,(c.testBit i = true -> Sub (b.getD i 0) c) /\ (c.testBit i = false -> ∀ j,(b.getD i 0).testBit j = true -> c.testBit j = false)
theorem Inv.step {c : Nat} {b : List Nat} {p : Int × Int} (h : Inv c b) (hp : c.testBit p.1.toNat = c.testBit p.2.toNat) : Inv c (ya b p):=by
 intro i
 by_cases hi : i < b.length
 ·rw [kh b p hi]
  split
  ·rename_i ha
   unfold allP at ha ⊢
   cases h1 : c.testBit p.1.toNat
   ·have k1:=(h p.1.toNat).2 h1
    have k2:=(h p.2.toNat).2 (hp ▸ h1)
    have hci : c.testBit i = false:=by
     rw [Nat.testBit_or,Bool.or_eq_true] at ha
     exact ha.elim (k1 i) (k2 i)
    refine ⟨fun e=>(by rw [hci] at e;cases e),fun _ j hj=>?_⟩
    rw [Nat.testBit_or,Nat.testBit_or,Bool.or_eq_true,Bool.or_eq_true] at hj
    rcases hj with hj | hj | hj
    ·exact (h i).2 hci j hj
    ·exact k1 j hj
    ·exact k2 j hj
   ·have k1:=(h p.1.toNat).1 h1
    have k2:=(h p.2.toNat).1 (hp ▸ h1)
    have hci : c.testBit i = true:=by
     rw [Nat.testBit_or,Bool.or_eq_true] at ha
     exact ha.elim (k1 i) (k2 i)
    refine ⟨fun _ j hj=>?_,fun e=>(by rw [hci] at e;cases e)⟩
    rw [Nat.testBit_or,Nat.testBit_or,Bool.or_eq_true,Bool.or_eq_true] at hj
    rcases hj with hj | hj | hj
    ·exact (h i).1 hci j hj
    ·exact k1 j hj
    ·exact k2 j hj
  ·exact h i
 ·rw [wk b p hi]
  exact ⟨fun _=>Sub.zero _,fun _ j hj=>by rw [Nat.zero_testBit] at hj;cases hj⟩
structure jO (l : Ld) (c : Nat) : Prop where
 w : (sumW (wts l) c : Int) <= l.bears
 wp : Cl l c
 ap : ∀ p ∈ l.apart,¬ (c.testBit p.1.toNat = true /\ c.testBit p.2.toNat = true)
theorem diff_half (a b : Nat) : diff a b / 2 = diff (a / 2) (b / 2):=fU fun i=>by
 rw [<- Nat.testBit_succ,y6,y6,Nat.testBit_succ,Nat.testBit_succ]
theorem diff_odd {a b : Nat} (h : Sub b a) : diff a b % 2 + b % 2 = a % 2:=by
 have e:=y6 a b 0
 have hs:=sub_odd h
 simp only [Nat.testBit_zero] at e
 rcases Nat.mod_two_eq_zero_or_one a with ha | ha <;> rcases Nat.mod_two_eq_zero_or_one b with hb | hb <;> rcases Nat.mod_two_eq_zero_or_one (diff a b) with hc | hc <;> simp [ha,hb,hc] at e hs ⊢
theorem gB : ∀ (ws : List Nat) (s c : Nat),Sub c s -> sumW ws (diff s c) + sumW ws c = sumW ws s
 | [],_,_,_=>rfl
 | w :: ws,s,c,h=>by
   have ih:=gB ws (s / 2) (c / 2) (sub_half h)
   have ho:=diff_odd h
   unfold sumW
   rw [diff_half]
   rcases Nat.mod_two_eq_zero_or_one s with ha | ha <;> rcases Nat.mod_two_eq_zero_or_one c with hb | hb <;> rcases Nat.mod_two_eq_zero_or_one (diff s c) with hc | hc <;> simp only [ha,hb,hc] at ho ⊢ <;> simp <;> omega
theorem gv : ∀ (ws vs : List Nat) (s : Nat),ws.length = vs.length -> (∀ i,ws.getD i 0 <= vs.getD i 0) -> sumW ws s <= sumW vs s
 | [],[],_,_,_=>Nat.le_refl _
 | w :: ws,v :: vs,s,hl,h=>by
   have h0:=h 0
   have:=gv ws vs (s / 2) (by simpa using hl) (fun i=>by simpa using h (i + 1))
   simp only [List.getD_cons_zero] at h0
   unfold sumW;split <;> omega
 | [],_ :: _,_,hl,_=>by simp at hl
 | _ :: _,[],_,hl,_=>by simp at hl
theorem Pk.sum {R : Nat -> Bool} {n set : Nat} (h : Pk R n set) (ws : List Nat) (k : Nat) (hR : ∀ c,Sub c set -> R c = true -> sumW ws c <= k) : sumW ws set <= n * k:=by
 induction h with
 | nil=>rw [wb];exact Nat.zero_le _
 | @cons n set c hr hs h0 t ih =>
   have h1:=ih fun c' hc'=>hR c' (hc'.trans (zaW _ _))
   have h2:=hR c hs hr
   have h3:=gB ws set c hs
   rw [Nat.succ_mul];omega
theorem wshrink {m s s' : Int} (h0 : 0 <= m) (h : s <= s') : m - m * s' / 100 <= m - m * s / 100:=by
 have h1 : m * s <= m * s':=Int.mul_le_mul_of_nonneg_left h h0
 have:=Int.ediv_le_ediv (show (0 : Int) < 100 by decide) h1
 omega
theorem jO.bears {l : Ld} {b : Int} (hb : l.bears <= b) {c : Nat} (h : jO l c) : jO { l with bears:=b } c:=
 ⟨by have:=h.w;show (sumW (wts l) c : Int) <= b;omega,h.wp,h.ap⟩
theorem jO.shrink {l : Ld} (o : LdOk l) {s : Int} (hs : l.shrink <= s) {c : Nat} (h : jO l c) : jO { l with shrink:=s } c:=
 ⟨by
  have h1:=h.w
  have h2:=gv (wts { l with shrink:=s }) (wts l) c (by simp [wts]) (fun i=>by
   simp only [wts,List.getD_eq_getElem?_getD,List.getElem?_map]
   cases e : l.sacks[i]? with
   | none=>simp
   | some x =>
     simp only [Option.map_some,Option.getD_some]
     have hx:=o.sk x (List.mem_of_getElem? e)
     unfold wt zL
     have:=wshrink (m:=x.m) (by omega) hs
     dsimp only;omega)
  show (sumW (wts { l with shrink:=s }) c : Int) <= l.bears
  omega,h.wp,h.ap⟩
theorem zbi (ps : List Int) (h0 : ∀ x ∈ ps,0 <= x) : ∀ (f i s : Nat),s < 2 ^ f -> ((kL f i s).map fun x=>ps.getD x.toNat 0).sum = (sumW ((ps.drop i).map Int.toNat) s : Int)
 | 0,i,s,h=>by
   have : s = 0:=by simpa using h
   subst this
   rw [wb];rfl
 | f + 1,i,s,h=>by
   have ih:=zbi ps h0 f (i + 1) (s / 2) (by rw [Nat.pow_succ] at h;omega)
   have e : kL (f + 1) i s = if s = 0 then [] else if s % 2 = 1 then (i : Int) :: kL f (i + 1) (s / 2) else kL f (i + 1) (s / 2):=rfl
   rw [e]
   by_cases hs : s = 0
   ·subst hs;rw [if_pos rfl,wb];rfl
   ·rw [if_neg hs]
    by_cases hi : i < ps.length
    ·have hd : ps.drop i = ps.getD i 0 :: ps.drop (i + 1):=by
      rw [List.drop_eq_getElem_cons hi,List.getD_eq_getElem?_getD,List.getElem?_eq_getElem hi];rfl
     have hp : 0 <= ps.getD i 0:=h0 _ (zn hi)
     rw [hd,List.map_cons]
     unfold sumW
     by_cases ho : s % 2 = 1
     ·rw [if_pos ho,if_pos ho,List.map_cons,List.sum_cons,ih]
      have : (i : Int).toNat = i:=rfl
      rw [this];omega
     ·rw [if_neg ho,if_neg ho,ih];omega
    ·have hd : ps.drop i = []:=List.drop_eq_nil_of_le (by omega)
     have hd2 : ps.drop (i + 1) = []:=List.drop_eq_nil_of_le (by omega)
     have hg : ps.getD i 0 = 0:=by rw [List.getD_eq_getElem?_getD,List.getElem?_eq_none (by omega)];rfl
     rw [hd2] at ih
     have z : ∀ k,sumW (([] : List Int).map Int.toNat) k = 0:=fun k=>rfl
     rw [z] at ih
     rw [hd,z]
     by_cases ho : s % 2 = 1
     ·rw [if_pos ho,List.map_cons,List.sum_cons,ih]
      have : (i : Int).toNat = i:=rfl
      rw [this,hg];rfl
     ·rw [if_neg ho,ih]
structure PR where
 u : Int
 ps : List Int
structure PR.Ok (n : Nat) (r : PR) : Prop where
 u1 : 1 <= r.u
 u2 : r.u <= 12
 n : r.ps.length = n
 ps : ∀ x ∈ r.ps,0 <= x /\ x <= 12
def pc (n g : Nat) (u : Int) : List AV:=[.int .i64 u,.gr g n]
def pg (ps : List Int) : Blk:=.grow 3 ps.isEmpty (ints ps)
def wsL (l : Ld) : List Int:=l.sacks.map (zL l)
def e0 (l : Ld) : AV:=.agg [.int .i64 l.bears,.sl (wsL l).isEmpty (ints (wsL l))]
inductive BS where
 | a (v : Hp)
 | b (v : Hp) (r : PR)
 | c (v : Hp) (r s : PR)
 | d (v : Hp) (r s t : PR)
def BS.Ok (n : Nat) : BS -> Prop
 | .a v=>v.Ok
 | .b v r=>v.Ok /\ r.Ok n
 | .c v r s=>v.Ok /\ r.Ok n /\ s.Ok n
 | .d v r s t=>v.Ok /\ r.Ok n /\ s.Ok n /\ t.Ok n
def BS.k : BS -> Nat
 | .a _=>0
 | .b _ _=>1
 | .c _ _ _=>2
 | .d _ _ _ _=>3
def BS.hp (u1 : Hp) (l : Ld) : BS -> List Blk
 | .a v=>[hpC u1,.cells (ldC l),hpC v,.grow 64 false [e0 l]]
 | .b v r=>[hpC u1,.cells (ldC l),hpC v,.grow 64 false [e0 l,.agg (pc l.sacks.length 5 r.u)],.cells (pc l.sacks.length 5 r.u),pg r.ps]
 | .c v r s=>[hpC u1,.cells (ldC l),hpC v,.grow 64 false [e0 l,.agg (pc l.sacks.length 5 r.u),.agg (pc l.sacks.length 7 s.u)],.cells (pc l.sacks.length 5 r.u),pg r.ps,.cells (pc l.sacks.length 7 s.u),pg s.ps]
 | .d v r s t=>[hpC u1,.cells (ldC l),hpC v,.grow 64 false [e0 l,.agg (pc l.sacks.length 5 r.u),.agg (pc l.sacks.length 7 s.u),.agg (pc l.sacks.length 9 t.u)],.cells (pc l.sacks.length 5 r.u),pg r.ps,.cells (pc l.sacks.length 7 s.u),pg s.ps,.cells (pc l.sacks.length 9 t.u),pg t.ps]
theorem BS.low (u1 : Hp) (l : Ld) (g : BS) : ∀ x ∈ g.hp u1 l,x.low (g.hp u1 l).length = true:=by
 cases g <;>
 ·intro x hx
  simp only [BS.hp,List.mem_cons,List.not_mem_nil,or_false] at hx
  repeat' (rcases hx with rfl | hx)
  all_goals first|exact jk _|exact vY _|exact lowI _|(subst hx;first|exact lowI _|(simp only [Blk.low,pc,e0,lowL,AV.low,lowI];rfl))|(simp only [Blk.low,pc,e0,lowL,AV.low,lowI];rfl)
structure Eqv (n : Nat) (b : List Nat) : Prop where
 self : ∀ i,i < n -> (b.getD i 0).testBit i = true
 same : ∀ i j,(b.getD j 0).testBit i = true -> b.getD i 0 = b.getD j 0
 lt : ∀ i j,(b.getD j 0).testBit i = true -> i < n /\ j < n
theorem Eqv.step {n : Nat} {b : List Nat} {p : Int × Int} (h : Eqv n b) (hn : n <= 9) (hb : b.length = 9) (h1 : p.1.toNat < n) (h2 : p.2.toNat < n) : Eqv n (ya b p):=by
 have ain : ∀ x,(allP b p).testBit x = true -> (b.getD p.1.toNat 0).testBit x = true \/ (b.getD p.2.toNat 0).testBit x = true:=fun x hx=>by
  unfold allP at hx;rw [Nat.testBit_or,Bool.or_eq_true] at hx;exact hx
 have sub : ∀ x,(allP b p).testBit x = true -> Sub (b.getD x 0) (allP b p):=by
  intro x hx y hy
  unfold allP;rw [Nat.testBit_or,Bool.or_eq_true]
  rcases ain x hx with hx | hx
  ·rw [h.same _ _ hx] at hy;exact .inl hy
  ·rw [h.same _ _ hx] at hy;exact .inr hy
 have alt : ∀ x,(allP b p).testBit x = true -> x < n:=fun x hx=>(ain x hx).elim (fun e=>(h.lt _ _ e).1) (fun e=>(h.lt _ _ e).1)
 have yes : ∀ x,(allP b p).testBit x = true -> (ya b p).getD x 0 = allP b p:=by
  intro x hx
  have:=alt x hx
  rw [kh b p (by omega),if_pos hx]
  apply fU;intro i;rw [Nat.testBit_or]
  cases hi : (b.getD x 0).testBit i
  ·rfl
  ·rw [sub x hx i hi];rfl
 have no : ∀ x,x < 9 -> (allP b p).testBit x = false -> (ya b p).getD x 0 = b.getD x 0:=fun x hx ha=>by
  rw [kh b p (by omega),if_neg (by rw [ha];simp)]
 have big : ∀ x,¬ x < 9 -> (ya b p).getD x 0 = 0:=fun x hx=>wk b p (by omega)
 refine ⟨fun i hi=>zag b p i i (h.self i hi),fun i j hij=>?_,fun i j hij=>?_⟩
 ·by_cases hj : j < 9
  ·cases ha : (allP b p).testBit j
   ·rw [no j hj ha] at hij ⊢
    have hl:=h.lt i j hij
    have hi : (allP b p).testBit i = false:=by
     cases hb' : (allP b p).testBit i
     ·rfl
     ·have h3:=sub i hb'
      rw [h.same i j hij] at h3
      have:=h3 j (h.self j hl.2)
      rw [ha] at this;cases this
    rw [no i (by omega) hi,h.same i j hij]
   ·rw [yes j ha] at hij ⊢
    exact yes i hij
  ·rw [big j hj,Nat.zero_testBit] at hij;cases hij
 ·by_cases hj : j < 9
  ·cases ha : (allP b p).testBit j
   ·rw [no j hj ha] at hij;exact h.lt i j hij
   ·rw [yes j ha] at hij;exact ⟨alt i hij,alt j ha⟩
  ·rw [big j hj,Nat.zero_testBit] at hij;cases hij
def setN : List Bool -> Nat
 | []=>0
 | b :: bs=>2 * setN bs + b.toNat
theorem zaK : ∀ (bs : List Bool) (k : Nat),(setN bs).testBit k = bs.getD k false
 | [],k=>by simp [setN]
 | b :: bs,0=>by
   unfold setN;rw [Nat.testBit_zero];cases b <;> simp <;> omega
 | b :: bs,k + 1=>by
   unfold setN;rw [Nat.testBit_succ,show (2 * setN bs + b.toNat) / 2 = setN bs by cases b <;> simp <;> omega,zaK bs k];rfl
def fG (n s : Nat) : List Bool:=(List.range n).map fun k=>s.testBit k
theorem vf (n s : Nat) : (fG n s).length = n:=by simp [fG]
theorem vC {n s k : Nat} (hk : k < n) : (fG n s).getD k false = s.testBit k:=by
 unfold fG;rw [List.getD_eq_getElem?_getD,List.getElem?_map,List.getElem?_range hk];rfl
def lsK (bs : List Bool) (k : Nat) : List Int:=((List.range k).filter fun j=>bs.getD j false).map fun j : Nat=>(j : Int)
def lsN (bs : List Bool) : List Int:=lsK bs bs.length
theorem zbb : ∀ (f i s : Nat),s < 2 ^ f -> kL f i s = ((List.range f).filter fun j=>s.testBit j).map fun j=>((i + j : Nat) : Int)
 | 0,i,s,h=>rfl
 | f + 1,i,s,h=>by
   have ih:=zbb f (i + 1) (s / 2) (by rw [Nat.pow_succ] at h;omega)
   have e : kL (f + 1) i s = if s = 0 then [] else if s % 2 = 1 then (i : Int) :: kL f (i + 1) (s / 2) else kL f (i + 1) (s / 2):=rfl
   have e2 : ((List.range (f + 1)).filter fun j=>s.testBit j).map (fun j=>((i + j : Nat) : Int)) = (if s % 2 = 1 then [(i : Int)] else []) ++ ((List.range f).filter fun j=>(s / 2).testBit j).map fun j=>((i + 1 + j : Nat) : Int):=by
    rw [List.range_succ_eq_map,List.filter_cons,List.filter_map]
    have h0 : s.testBit 0 = decide (s % 2 = 1):=Nat.testBit_zero s
    have hf : ((fun j=>s.testBit j) ∘ Nat.succ) = fun j=>(s / 2).testBit j:=by funext j;exact Nat.testBit_succ ..
    rw [hf,h0]
    by_cases hs : s % 2 = 1
    ·rw [if_pos hs,if_pos (by simp [hs]),List.map_cons,List.map_map]
     show _ :: _ = _ :: _
     congr 1
     apply List.map_congr_left;intro j _;show ((i + (j + 1) : Nat) : Int) = _;congr 1;omega
    ·rw [if_neg hs,if_neg (by simp [hs]),List.map_map]
     show _ = _
     rw [List.nil_append]
     apply List.map_congr_left;intro j _;show ((i + (j + 1) : Nat) : Int) = _;congr 1;omega
   rw [e,e2]
   by_cases h0 : s = 0
   ·subst h0
    rw [if_pos rfl]
    have : ((List.range f).filter fun j=>(0 / 2).testBit j) = []:=by rw [List.filter_eq_nil_iff];intro j _;simp
    rw [this];rfl
   ·rw [if_neg h0,ih]
    by_cases hs : s % 2 = 1
    ·rw [if_pos hs,if_pos hs];rfl
    ·rw [if_neg hs,if_neg hs];rfl
theorem bits_ls {n s : Nat} (hn : n <= 9) (h : s < 2 ^ n) : lsN (fG n s) = bits s:=by
 have hp:=pow9 hn
 have e : bits s = ((List.range 62).filter fun j=>s.testBit j).map fun j=>((0 + j : Nat) : Int):=zbb 62 0 s (by omega)
 rw [e]
 have hr : List.range 62 = List.range n ++ (List.range (62 - n)).map (n + ·):=by rw [<- List.range_add];congr 1;omega
 rw [hr,List.filter_append]
 have h2 : ((List.range (62 - n)).map (n + ·)).filter (fun j=>s.testBit j) = []:=by
  rw [List.filter_eq_nil_iff]
  intro j hj
  obtain ⟨k,_,rfl⟩:=List.mem_map.1 hj
  rw [Nat.testBit_lt_two_pow (Nat.lt_of_lt_of_le h (Nat.pow_le_pow_right (by omega) (by omega)))];simp
 rw [h2,List.append_nil]
 unfold lsN lsK
 rw [vf]
 have h3 : ((List.range n).filter fun j=>(fG n s).getD j false) = (List.range n).filter fun j=>s.testBit j:=by
  apply List.filter_congr
  intro j hj
  exact vC (List.mem_range.1 hj)
 rw [h3]
 apply List.map_congr_left;intro j _;congr 1;omega
theorem fp (l : Ld) (o : LdW l) (h : vx l = 0) : Comp Tryz.prog 47 [ldA l] (.tup [.sl false (ints (jL l)),.int .i64 0]):=by
 refine Comp.body (T:=tab) (res:=[.tmp 2,.tmp 3]) za [] Tryz.func47 rfl (by kernel_rfl) Tryz.ntmps47 rfl (by simp only [List.length_cons,List.length_nil];decide) (by simp only [lowL,AV.low,ldL];rfl) ?_;conv=>whnf
 refine zf.ret (check_c l o.w o.h1 o.h2 o.h3) ?_
 conv=>whnf
 repeat' ((with_reducible first|refine XBr.y2 fun h=>?_|refine XBr.n2 fun h=>?_|refine XBr.bne (fun h=>?_) fun h=>?_) <;> conv=>whnf)
 refine zf.ret (parts_c l ((gY l).1 h)) ?_
 conv=>whnf
 exact ⟨Froz.low (by show lowL 0 _ = true;simp only [lowL,AV.low,lowI];rfl)⟩
structure DelOk (xs : List Int) (g : Int) (j : Nat) (ys : List Int) : Prop where
 n : ys.length = xs.length
 h : ys.take (jG (xs.take j) g).length = jG (xs.take j) g
 t : ∀ i,j <= i -> ys.getD i default = xs.getD i default
 lt : (jG (xs.take j) g).length < j
theorem DelOk.put {xs : List Int} {g : Int} {j : Nat} {ys : List Int} (o : DelOk xs g j ys) (hj : j < xs.length) (hv : ¬ xs.getD j default < g) : DelOk xs g (j + 1) (ys.set (jG (xs.take j) g).length (xs.getD j default)) /\ (jG (xs.take (j + 1)) g).length = (jG (xs.take j) g).length + 1:=by
 have e:=kept_next (g:=g) hj
 rw [if_pos (by omega)] at e
 have hlt:=o.lt
 have hn:=o.n
 refine ⟨⟨by rw [List.length_set];exact o.n,?_,fun i hi=>?_,?_⟩,by rw [e,List.length_append];rfl⟩
 ·rw [e,List.length_append]
  generalize hk : (jG (xs.take j) g) = K at hlt
  have hh:=o.h
  rw [hk] at hh
  show (ys.set K.length _).take (K.length + 1) = _
  rw [ja (by rw [List.length_set];omega)]
  congr 1
  ·rw [List.take_set_of_le (Nat.le_refl _)];exact hh
  ·rw [List.getD_eq_getElem?_getD,List.getElem?_set_self (by omega)];rfl
 ·rw [<- o.t i (by omega),List.getD_eq_getElem?_getD,List.getElem?_set_ne (by omega),<- List.getD_eq_getElem?_getD]
 ·rw [e,List.length_append];show _ + 1 < _;omega
def hit (R : Nat -> Bool) (s a k : Nat) : Bool:=R k && (a &&& k == 0) && (a + k == s)
def wsum (l : Ld) (is : List Int) : Int:=(is.map fun i=>(l.sacks.map (zL l)).getD i.toNat 0).sum
theorem wsum_bits {l : Ld} (o : LdOk l) {s : Nat} (hs : s < 2 ^ l.sacks.length) : wsum l (bits s) = (sumW (wts l) s : Int):=by
 have hp:=pow9 o.n
 have h0 : ∀ x ∈ l.sacks.map (zL l),0 <= x:=fun x hx=>by
  obtain ⟨k,hk,rfl⟩:=List.mem_map.1 hx
  have:=wt_le o hk;omega
 have:=zbi (l.sacks.map (zL l)) h0 62 0 s (by omega)
 rw [List.drop_zero,List.map_map] at this
 exact this
theorem bits_in {n s : Nat} (hn : n <= 9) (hs : s < 2 ^ n) : ∀ x ∈ bits s,0 <= x /\ x < n:=fun x hx=>by
 have:=vR 62 0 s n hs x hx;omega
def y0 (is : List Int) (c : Nat) : Nat:=setN (is.map fun i=>c.testBit i.toNat)
theorem jW (is : List Int) (c j : Nat) : (y0 is c).testBit j = (decide (j < is.length) && c.testBit (is.getD j default).toNat):=by
 unfold y0
 rw [zaK,List.getD_eq_getElem?_getD,List.getElem?_map,List.getD_eq_getElem?_getD]
 by_cases h : j < is.length
 ·rw [List.getElem?_eq_getElem h];simp [h]
 ·rw [List.getElem?_eq_none (by omega)];simp [h]
theorem gQ (w : Int -> Nat) (c : Nat) : ∀ is : List Int,sumW (is.map w) (y0 is c) = ((is.filter fun i=>c.testBit i.toNat).map w).sum
 | []=>rfl
 | i :: is=>by
   have ih:=gQ w c is
   have e : y0 (i :: is) c = 2 * y0 is c + (c.testBit i.toNat).toNat:=rfl
   show (if y0 (i :: is) c % 2 = 1 then w i else 0) + sumW (is.map w) (y0 (i :: is) c / 2) = _
   rw [e,List.filter_cons]
   cases hb : c.testBit i.toNat
   ·rw [if_neg (by show ¬ (2 * y0 is c + 0) % 2 = 1;omega),if_neg (by simp),show (2 * y0 is c + false.toNat) / 2 = y0 is c by show (2 * y0 is c + 0) / 2 = _;omega,ih];simp
   ·rw [if_pos (by show (2 * y0 is c + 1) % 2 = 1;omega),if_pos rfl,show (2 * y0 is c + true.toNat) / 2 = y0 is c by show (2 * y0 is c + 1) / 2 = _;omega,ih];simp
theorem zaM {n s c : Nat} (hn : n <= 9) (hs : s < 2 ^ n) (h : Sub c s) : (bits s).filter (fun i=>c.testBit i.toNat) = bits c:=by
 have hc : c < 2 ^ n:=Nat.lt_of_le_of_lt h.le hs
 rw [<- bits_ls hn hs,<- bits_ls hn hc]
 unfold lsN lsK
 rw [vf,vf,List.filter_map,List.filter_filter]
 congr 1
 refine List.filter_congr fun i hi=>?_
 have hin:=List.mem_range.1 hi
 rw [vC hin,vC hin]
 show (c.testBit ((i : Int)).toNat && s.testBit i) = c.testBit i
 rw [Int.toNat_natCast]
 cases hb : c.testBit i
 ·rfl
 ·rw [h i hb];rfl
structure SubL (l u : Ld) (is : List Int) : Prop where
 b : u.bears = l.bears
 s : u.shrink = l.shrink
 k : u.sacks = is.map fun i=>l.sacks.getD i.toNat default
 ap : ∀ p ∈ u.apart,∃ q ∈ l.apart,q.1 = is.getD p.1.toNat default /\ q.2 = is.getD p.2.toNat default
 wp : ∀ p ∈ u.wth,∃ q ∈ l.wth,q.1 = is.getD p.1.toNat default /\ q.2 = is.getD p.2.toNat default
theorem SubL.wts {l u : Ld} {is : List Int} (h : SubL l u is) : GA.wts u = is.map fun i=>wt l (l.sacks.getD i.toNat default):=by
 unfold GA.wts
 rw [h.k,List.map_map]
 refine List.map_congr_left fun i _=>?_
 show (zL u _).toNat = (zL l _).toNat
 unfold zL;rw [h.s]
theorem SubL.sum {l u : Ld} {s : Nat} (o : LdOk l) (hs : s < 2 ^ l.sacks.length) (h : SubL l u (bits s)) {c : Nat} (hc : Sub c s) : sumW (GA.wts u) (y0 (bits s) c) = sumW (GA.wts l) c:=by
 have hcl : c < 2 ^ l.sacks.length:=Nat.lt_of_le_of_lt hc.le hs
 rw [h.wts,gQ,zaM o.n hs hc]
 have e:=wsum_bits o hcl
 have : wsum l (bits c) = ((((bits c).map fun i=>wt l (l.sacks.getD i.toNat default)).sum : Nat) : Int):=by
  unfold wsum
  have hb : ∀ x ∈ bits c,0 <= x /\ x < l.sacks.length:=bits_in o.n hcl
  generalize bits c = xs at hb
  induction xs with
  | nil=>rfl
  | cons x xs ih =>
    have hx:=hb x List.mem_cons_self
    have hw:=wt_le o (zn (xs:=l.sacks) (i:=x.toNat) (d:=default) (by omega))
    rw [List.map_cons,List.map_cons,List.sum_cons,List.sum_cons,Int.natCast_add,<- ih fun y hy=>hb y (List.mem_cons_of_mem _ hy),hw.1]
    congr 1
    rw [List.getD_eq_getElem?_getD,List.getElem?_map,List.getD_eq_getElem?_getD,List.getElem?_eq_getElem (by omega)];rfl
 omega
theorem SubL.right {l u : Ld} {s : Nat} (o : LdOk l) (hs : s < 2 ^ l.sacks.length) (h : SubL l u (bits s)) (hp : ∀ p ∈ u.apart,p.1.toNat < (bits s).length /\ p.2.toNat < (bits s).length) (hq : ∀ p ∈ u.wth,p.1.toNat < (bits s).length /\ p.2.toNat < (bits s).length) {c : Nat} (hc : Sub c s) (hr : jO l c) : jO u (y0 (bits s) c):=by
 refine ⟨by rw [h.sum o hs hc,h.b];exact hr.w,fun p hp'=>?_,fun p hp'=>?_⟩
 ·obtain ⟨q,hq1,e1,e2⟩:=h.wp p hp'
  have:=hq p hp'
  rw [jW,jW,<- e1,<- e2,hr.wp q hq1,decide_eq_true this.1,decide_eq_true this.2]
 ·obtain ⟨q,hq1,e1,e2⟩:=h.ap p hp'
  rw [jW,jW,<- e1,<- e2]
  intro hh
  simp only [Bool.and_eq_true] at hh
  exact hr.ap q hq1 ⟨hh.1.2,hh.2.2⟩
structure Mo where
 g : Int
 r : Int
 pl : Int
 ph : Int
 tl : Int
 th : Int
 deriving Inhabited,DecidableEq
structure Su where
 m : Int
 lo : Int
 hi : Int
 deriving Inhabited,DecidableEq
structure Bd where
 room : Int
 first : Int
 unsure : Int
 nlm : Bool
 months : List Mo
 nls : Bool
 surveys : List Su
 deriving Inhabited
def moA (m : Mo) : AV:=.agg [.int .i64 m.g,.int .i64 m.r,.int .i64 m.pl,.int .i64 m.ph,.int .i64 m.tl,.int .i64 m.th]
def suA (s : Su) : AV:=.agg [.int .i64 s.m,.int .i64 s.lo,.int .i64 s.hi]
def spA (lo hi : Int) : AV:=.agg [.int .i64 lo,.int .i64 hi]
def bedC (b : Bd) : List AV:=[.int .i64 b.room,.int .i64 b.first,.int .i64 b.unsure,.sl b.nlm (b.months.map moA),.sl b.nls (b.surveys.map suA)]
def bedA (b : Bd) : AV:=.agg (bedC b)
theorem moL {n : Nat} (m : Mo) : (moA m).low n = true:=rfl
theorem suL {n : Nat} (m : Su) : (suA m).low n = true:=rfl
theorem kJ {n : Nat} (xs : List Mo) : lowL n (xs.map moA) = true:=zT (fun _=>rfl) xs
theorem js {n : Nat} (xs : List Su) : lowL n (xs.map suA) = true:=zT (fun _=>rfl) xs
theorem wideMo (xs : List Mo) : wide 6 (xs.map moA) = true:=je (f:=moA) (n:=6) (fun _=>rfl) (fun _=>rfl) xs
theorem fb {n : Nat} (b : Bd) : lowL n (bedC b) = true:=by simp only [bedC,lowL,AV.low,kJ,js];rfl
theorem bedL {n : Nat} (b : Bd) : (bedA b).low n = true:=fb b
def inZ (n lo hi : Int) : Bool:=decide (lo <= n) && decide (n <= hi)
theorem zz {n lo hi : Int} : inZ n lo hi = true ↔ lo <= n /\ n <= hi:=by simp [inZ]
theorem wI (n lo hi : Int) : Comp Tryz.prog 393 [.int .i64 n,.int .i64 lo,.int .i64 hi] (.bool (inZ n lo hi)):=by
 refine Comp.body (T:=tab) (res:=[.tmp 6]) za [] Tryz.func393 rfl (by kernel_rfl) Tryz.ntmps393 rfl (by simp only [List.length_cons,List.length_nil];decide) (by rfl) ?_;conv=>whnf
 repeat' first|((with_reducible first|apply XBr.tt|apply XBr.ff);conv=>whnf)|((with_reducible apply XBr.dec) <;> (intro h;first|(exfalso;omega)|((try simp only [List.length_map] at h);first|(exfalso;omega)|(conv=>whnf))))|fail
 all_goals (refine XOut.bool ?_;rw [Bool.eq_iff_iff];simp [inZ];try omega)
def yX (l h lo hi : Int) : Bool:=inZ l lo hi && inZ h l hi
theorem zaY (l h lo hi : Int) : Comp Tryz.prog 418 [spA l h,.int .i64 lo,.int .i64 hi] (.bool (yX l h lo hi)):=by
 refine Comp.body (T:=tab) (res:=[.tmp 6]) za [] Tryz.func418 rfl (by kernel_rfl) Tryz.ntmps418 rfl (by simp only [List.length_cons,List.length_nil];decide) (by rfl) ?_;conv=>whnf
 repeat' first|((first|(with_reducible first|apply XBr.tt|apply XBr.ff)|(refine zf.ret (wI _ _ _) ?_));conv=>whnf)|((with_reducible refine XBr.mk' (fun h=>?_) fun h=>?_) <;> conv=>whnf)|fail
 all_goals exact XOut.bool (by unfold yX;rw [h];rfl)
theorem z0 (b : Bd) (n : Int) : Comp Tryz.prog 328 [bedA b,.int .i64 n] (.bool (inZ n 0 b.room)):=by
 refine Comp.body (T:=tab) (res:=[.tmp 4]) za [] Tryz.func328 rfl (by kernel_rfl) Tryz.ntmps328 rfl (by simp only [List.length_cons,List.length_nil];decide) (by simp only [lowL,bedL,AV.low];rfl) ?_;conv=>whnf
 repeat' ((refine zf.ret (wI _ _ _) ?_);conv=>whnf)
 all_goals exact XOut.bool rfl
def moR (b : Bd) (m : Mo) : Bool:=inZ m.g 0 100 && inZ m.r 0 b.room && yX m.pl m.ph 0 60 && yX m.tl m.th 0 60
theorem zby (b : Bd) (m : Mo) : Comp Tryz.prog 415 [bedA b,moA m] (.bool (moR b m)):=by
 refine Comp.body (T:=tab) (res:=[.tmp 4]) za [] Tryz.func415 rfl (by kernel_rfl) Tryz.ntmps415 rfl (by simp only [List.length_cons,List.length_nil];decide) (by simp only [lowL,bedL,moL];rfl) ?_;conv=>whnf
 repeat' first|((first|(with_reducible first|apply XBr.tt|apply XBr.ff)|(first|refine zf.ret (wI _ _ _) ?_|refine zf.ret (z0 b _) ?_|refine zf.ret (zaY _ _ _ _) ?_));conv=>whnf)|((with_reducible refine XBr.mk' (fun h=>?_) fun h=>?_) <;> conv=>whnf)|fail
 all_goals exact XOut.bool (by unfold moR;simp [*])
theorem kR (n : Int) (nl : Bool) (xs : List Int) (hx : xs.length <= 100000) : Comp Tryz.prog 217 [.int .i64 n,.sl nl (ints xs)] (.int .i64 (xs.foldl max n)):=by
 have e1 : ((ints xs).length : Int) = xs.length:=by rw [List.length_map]
 refine Comp.body (T:=tab) (res:=[.tmp 4]) za [] Tryz.func217 rfl (by kernel_rfl) Tryz.ntmps217 rfl (by simp only [List.length_cons,List.length_nil];decide) (by simp only [lowL,AV.low,lowI];rfl) ?_;conv=>whnf
 skip
 refine Walk.loop za [] (fun k : Nat=>k <= xs.length) (fun k=>[(0,.int .i64 ((xs.take k).foldl max n)),(4,.int .i64 0),(7,.sl nl (ints xs)),(8,.int .i64 (ints xs).length),(9,natA k)]) (fun _=>[]) (fun k=>xs.length - k) 0 (Nat.zero_le _) rfl ⟨rfl,rfl,rfl,rfl,rfl,trivial⟩ ?_
 intro k hk
 conv=>whnf
 repeat' first|((with_reducible refine XInt.a ?_);conv=>whnf)|(refine XIx.a ?_;conv=>whnf)|((with_reducible apply XBr.dec) <;> (intro h;first|(exfalso;omega)|((try simp only [List.length_map] at h);first|(exfalso;omega)|(conv=>whnf))))|fail
 ·refine zu.go (k + 1) (show k + 1 <= xs.length by omega) (by omega) rfl ⟨?_,rfl,rfl,rfl,rfl,trivial⟩
  show some (AV.int .i64 _) = some (AV.int .i64 ((xs.take (k + 1)).foldl max n))
  rw [ja (by omega),List.foldl_append]
  rfl
 ·refine XOut.int ?_
  rw [List.take_of_length_le (by omega)]
theorem idxf_mo (nl : Bool) (xs : List Mo) (g : FuncId) (caps : List AV) (p : Mo -> Bool) (hl : lowL 0 caps = true) (hx : xs.length <= 100000) (hp : ∀ x ∈ xs,Comp Tryz.prog g (moA x :: caps) (.bool (p x))) :
  Comp Tryz.prog 446 [.sl nl (xs.map moA),.fn g caps] (.int .i64 (idxR p xs)):=by
 refine Comp.body (T:=tab) (res:=[.tmp 4]) za [] Tryz.func446 rfl (by kernel_rfl) Tryz.ntmps446 rfl (by simp only [List.length_cons,List.length_nil];decide) (by simp only [lowL,AV.low,kJ,hl];rfl) ?_;conv=>whnf
 refine Walk.loop za [] (fun i : Nat=>i <= xs.length /\ ∀ j,j < i -> p (xs.getD j default) = false) (fun i=>[(0,.sl nl (xs.map moA)),(1,.fn g caps),(7,.int .i64 xs.length),(8,.int .i64 i)]) (fun _=>[]) (fun i=>xs.length - i) 0 ⟨by omega,by omega⟩ rfl ⟨rfl,rfl,by simp only [List.length_map];rfl,rfl,trivial⟩ ?_
 rintro i ⟨h2,h3⟩
 conv=>whnf
 repeat' first|(refine XIx.a ?_;conv=>whnf)|((with_reducible apply XBr.dec) <;> (intro h;first|(exfalso;omega)|((try simp only [List.length_map] at h);first|(exfalso;omega)|(conv=>whnf))))|fail
 ·refine zf.ret (hp _ (zn (i:=i) (d:=default) (by omega))) ?_
  conv=>whnf
  refine XBr.mk' ?_ ?_ <;> intro h4 <;> (conv=>whnf)
  ·refine XOut.int ?_
   simp only [idxR,kn (d:=default) (i:=i) (by omega) h4 h3]
  ·skip
   repeat' ((with_reducible refine XInt.a ?_);conv=>whnf)
   refine zu.go (i + 1) ⟨by omega,fun j hj=>?_⟩ (by omega) rfl ⟨rfl,rfl,rfl,rfl,trivial⟩
   by_cases hji : j = i
   ·subst hji;exact h4
   ·exact h3 j (by omega)
 ·refine XOut.int ?_
  simp only [idxR,kj (d:=default) fun j hj=>h3 j (by omega)]
theorem contf_mo (nl : Bool) (xs : List Mo) (g : FuncId) (caps : List AV) (p : Mo -> Bool) (hl : lowL 0 caps = true) (hx : xs.length <= 100000) (hp : ∀ x ∈ xs,Comp Tryz.prog g (moA x :: caps) (.bool (p x))) :
  Comp Tryz.prog 436 [.sl nl (xs.map moA),.fn g caps] (.bool (xs.any p)):=by
 refine Comp.body (T:=tab) (res:=[.tmp 4]) za [] Tryz.func436 rfl (by kernel_rfl) Tryz.ntmps436 rfl (by simp only [List.length_cons,List.length_nil];decide) (by simp only [lowL,AV.low,kJ,hl];rfl) ?_;conv=>whnf
 refine zf.ret (idxf_mo nl xs g caps p hl hx hp) ?_
 conv=>whnf
 refine XOut.bool ?_
 rw [Bool.eq_iff_iff,decide_eq_true_eq];exact kW
theorem idxf_su (nl : Bool) (xs : List Su) (g : FuncId) (caps : List AV) (p : Su -> Bool) (hl : lowL 0 caps = true) (hx : xs.length <= 100000) (hp : ∀ x ∈ xs,Comp Tryz.prog g (suA x :: caps) (.bool (p x))) :
  Comp Tryz.prog 447 [.sl nl (xs.map suA),.fn g caps] (.int .i64 (idxR p xs)):=by
 refine Comp.body (T:=tab) (res:=[.tmp 4]) za [] Tryz.func447 rfl (by kernel_rfl) Tryz.ntmps447 rfl (by simp only [List.length_cons,List.length_nil];decide) (by simp only [lowL,AV.low,js,hl];rfl) ?_;conv=>whnf
 refine Walk.loop za [] (fun i : Nat=>i <= xs.length /\ ∀ j,j < i -> p (xs.getD j default) = false) (fun i=>[(0,.sl nl (xs.map suA)),(1,.fn g caps),(7,.int .i64 xs.length),(8,.int .i64 i)]) (fun _=>[]) (fun i=>xs.length - i) 0 ⟨by omega,by omega⟩ rfl ⟨rfl,rfl,by simp only [List.length_map];rfl,rfl,trivial⟩ ?_
 rintro i ⟨h2,h3⟩
 conv=>whnf
 repeat' first|(refine XIx.a ?_;conv=>whnf)|((with_reducible apply XBr.dec) <;> (intro h;first|(exfalso;omega)|((try simp only [List.length_map] at h);first|(exfalso;omega)|(conv=>whnf))))|fail
 ·refine zf.ret (hp _ (zn (i:=i) (d:=default) (by omega))) ?_
  conv=>whnf
  refine XBr.mk' ?_ ?_ <;> intro h4 <;> (conv=>whnf)
  ·refine XOut.int ?_
   simp only [idxR,kn (d:=default) (i:=i) (by omega) h4 h3]
  ·skip
   repeat' ((with_reducible refine XInt.a ?_);conv=>whnf)
   refine zu.go (i + 1) ⟨by omega,fun j hj=>?_⟩ (by omega) rfl ⟨rfl,rfl,rfl,rfl,trivial⟩
   by_cases hji : j = i
   ·subst hji;exact h4
   ·exact h3 j (by omega)
 ·refine XOut.int ?_
  simp only [idxR,kj (d:=default) fun j hj=>h3 j (by omega)]
theorem contf_su (nl : Bool) (xs : List Su) (g : FuncId) (caps : List AV) (p : Su -> Bool) (hl : lowL 0 caps = true) (hx : xs.length <= 100000) (hp : ∀ x ∈ xs,Comp Tryz.prog g (suA x :: caps) (.bool (p x))) :
  Comp Tryz.prog 438 [.sl nl (xs.map suA),.fn g caps] (.bool (xs.any p)):=by
 refine Comp.body (T:=tab) (res:=[.tmp 4]) za [] Tryz.func438 rfl (by kernel_rfl) Tryz.ntmps438 rfl (by simp only [List.length_cons,List.length_nil];decide) (by simp only [lowL,AV.low,js,hl];rfl) ?_;conv=>whnf
 refine zf.ret (idxf_su nl xs g caps p hl hx hp) ?_
 conv=>whnf
 refine XOut.bool ?_
 rw [Bool.eq_iff_iff,decide_eq_true_eq];exact kW
theorem every1_mo (x : Mo) (g : FuncId) (fs : List AV) (p : Mo -> Bool) (hl : lowL 0 fs = true) (hp : Comp Tryz.prog g (fs ++ [moA x]) (.bool (p x))) :
  Comp Tryz.prog 437 [moA x,.pim [.bf g fs]] (.bool (!p x)):=by
 refine Comp.body (T:=tab) (res:=[.tmp 3]) za [] Tryz.func437 rfl (by kernel_rfl) Tryz.ntmps437 rfl (by simp only [List.length_cons,List.length_nil];decide) (by simp only [lowL,AV.low,moL,hl];rfl) ?_;conv=>whnf
 refine zf.ret hp ?_
 conv=>whnf
 exact XOut.bool rfl
theorem every_mo (nl : Bool) (xs : List Mo) (g : FuncId) (fs : List AV) (p : Mo -> Bool) (hl : lowL 0 fs = true) (hx : xs.length <= 100000) (hp : ∀ x ∈ xs,Comp Tryz.prog g (fs ++ [moA x]) (.bool (p x))) :
  Comp Tryz.prog 414 [.sl nl (xs.map moA),.bf g fs] (.bool (xs.all p)):=by
 refine Comp.body (T:=tab) (res:=[.tmp 4]) za [] Tryz.func414 rfl (by kernel_rfl) Tryz.ntmps414 rfl (by simp only [List.length_cons,List.length_nil];decide) (by simp only [lowL,AV.low,kJ,hl];rfl) ?_;conv=>whnf
 refine zf.ret (contf_mo nl xs 437 [.pim [.bf g fs]] (fun x=>!p x) (by simp only [lowL,AV.low,hl];rfl) hx fun x hm=>every1_mo x g fs p hl (hp x hm)) ?_
 conv=>whnf
 refine XOut.bool ?_
 rw [List.not_any_eq_all_not];simp
theorem every1_su (x : Su) (g : FuncId) (caps : List AV) (p : Su -> Bool) (hl : lowL 0 caps = true) (hp : Comp Tryz.prog g (suA x :: caps) (.bool (p x))) :
  Comp Tryz.prog 439 [suA x,.pim [.fn g caps]] (.bool (!p x)):=by
 refine Comp.body (T:=tab) (res:=[.tmp 3]) za [] Tryz.func439 rfl (by kernel_rfl) Tryz.ntmps439 rfl (by simp only [List.length_cons,List.length_nil];decide) (by simp only [lowL,AV.low,suL,hl];rfl) ?_;conv=>whnf
 refine zf.ret hp ?_
 conv=>whnf
 exact XOut.bool rfl
theorem zaI (nl : Bool) (xs : List Su) (g : FuncId) (caps : List AV) (p : Su -> Bool) (hl : lowL 0 caps = true) (hx : xs.length <= 100000) (hp : ∀ x ∈ xs,Comp Tryz.prog g (suA x :: caps) (.bool (p x))) :
  Comp Tryz.prog 416 [.sl nl (xs.map suA),.fn g caps] (.bool (xs.all p)):=by
 refine Comp.body (T:=tab) (res:=[.tmp 4]) za [] Tryz.func416 rfl (by kernel_rfl) Tryz.ntmps416 rfl (by simp only [List.length_cons,List.length_nil];decide) (by simp only [lowL,AV.low,js,hl];rfl) ?_;conv=>whnf
 refine zf.ret (contf_su nl xs 439 [.pim [.fn g caps]] (fun x=>!p x) (by simp only [lowL,AV.low,hl];rfl) hx fun x hm=>every1_su x g caps p hl (hp x hm)) ?_
 conv=>whnf
 refine XOut.bool ?_
 rw [List.not_any_eq_all_not];simp
def suR1 (b : Bd) (s : Su) : Bool:=yX s.lo s.hi 0 b.room
def suR2 (b : Bd) (s : Su) : Bool:=inZ s.m 0 b.months.length
theorem check1_c (b : Bd) (s : Su) : Comp Tryz.prog 417 [suA s,.pim (bedC b)] (.bool (suR1 b s)):=by
 refine Comp.body (T:=tab) (res:=[.tmp 3]) za [] Tryz.func417 rfl (by kernel_rfl) Tryz.ntmps417 rfl (by simp only [List.length_cons,List.length_nil];decide) (by simp only [lowL,suL,AV.low,fb];rfl) ?_;conv=>whnf
 repeat' ((refine zf.ret (zaY _ _ _ _) ?_);conv=>whnf)
 all_goals exact XOut.bool rfl
theorem check2_c (b : Bd) (s : Su) (h : b.months.length <= 100000) : Comp Tryz.prog 419 [suA s,.pim (bedC b)] (.bool (suR2 b s)):=by
 refine Comp.body (T:=tab) (res:=[.tmp 3]) za [] Tryz.func419 rfl (by kernel_rfl) Tryz.ntmps419 rfl (by simp only [List.length_cons,List.length_nil];decide) (by simp only [lowL,suL,AV.low,fb];rfl) ?_;conv=>whnf
 repeat' ((refine zf.ret (wI _ _ _) ?_);conv=>whnf)
 all_goals exact XOut.bool (by unfold suR2;rw [List.length_map])
def bedE (b : Bd) : Int:=
 if inZ b.room 1 120 = false then 3
 else if inZ b.months.length 1 10 = false \/ (8 : Int) < b.surveys.length then 2
 else if inZ b.first 0 b.room = false \/ inZ b.unsure 0 40 = false \/ b.months.all (moR b) = false then 3
 else if b.surveys.all (suR1 b) = false then 3
 else if b.surveys.all (suR2 b) = false then 1
 else 0
theorem ww (b : Bd) (h1 : b.months.length <= 100000) (h2 : b.surveys.length <= 100000) : Comp Tryz.prog 392 [bedA b] (.int .i64 (bedE b)):=by
 have e1 : ((b.months.map moA).length : Int) = b.months.length:=by rw [List.length_map]
 have e2 : ((b.surveys.map suA).length : Int) = b.surveys.length:=by rw [List.length_map]
 have hm:=every_mo b.nlm b.months 415 [bedA b] (moR b) (by simp only [lowL,bedL];rfl) h1 fun x _=>zby b x
 have hs1:=zaI b.nls b.surveys 417 [.pim (bedC b)] (suR1 b) (by simp only [lowL,AV.low,fb];rfl) h2 fun x _=>check1_c b x
 have hs2:=zaI b.nls b.surveys 419 [.pim (bedC b)] (suR2 b) (by simp only [lowL,AV.low,fb];rfl) h2 fun x _=>check2_c b x h1
 have hE : bedE b = if inZ b.room 1 120 = false then 3 else if inZ ((b.months.map moA).length : Int) 1 10 = false \/ (8 : Int) < b.surveys.length then 2 else if inZ b.first 0 b.room = false \/ inZ b.unsure 0 40 = false \/ b.months.all (moR b) = false then 3 else if b.surveys.all (suR1 b) = false then 3 else if b.surveys.all (suR2 b) = false then 1 else 0:=by rw [e1];rfl
 rw [hE]
 generalize b.months.all (moR b) = r1 at hm
 generalize b.surveys.all (suR1 b) = r2 at hs1
 generalize b.surveys.all (suR2 b) = r3 at hs2
 refine Comp.body (T:=tab) (res:=[.tmp 2]) za [] Tryz.func392 rfl (by kernel_rfl) Tryz.ntmps392 rfl (by simp only [List.length_cons,List.length_nil];decide) (by simp only [lowL,bedL];rfl) ?_;conv=>whnf
 repeat' first|((with_reducible first|apply XBr.tt|apply XBr.ff);conv=>whnf) | with_reducible apply XBr.not|((with_reducible apply XBr.dec) <;> (intro h;first|(exfalso;omega)|((try simp only [List.length_map] at h);first|(exfalso;omega)|(conv=>whnf))))|((first|refine zf.ret (wI _ _ _) ?_|refine zf.ret (z0 b _) ?_|refine zf.ret hm ?_|refine zf.ret hs1 ?_|refine zf.ret hs2 ?_);conv=>whnf)|((with_reducible refine XBr.mk' (fun h=>?_) fun h=>?_) <;> conv=>whnf)|fail
 all_goals refine XOut.int ?_
 all_goals clear hE hm hs1 hs2 e1 e2
 all_goals simp [*,-List.length_map]
def chA (sp st : Int) : AV:=.agg [.int .i64 sp,.int .i64 st]
def kQ (room g a sp st : Int) : Int:=max 0 (min room (a + a * g / 100 + sp) - st)
theorem gW {room g a sp st : Int} (h : 0 <= room) (h2 : 0 <= st) : 0 <= kQ room g a sp st /\ kQ room g a sp st <= room:=by
 unfold kQ;omega
theorem zae (b : Bd) (k : Nat) (a sp st : Int) (hk : k < b.months.length) (h1 : 0 <= a) (h2 : a <= 1000) (h3 : 0 <= (b.months.getD k default).g) (h4 : (b.months.getD k default).g <= 100) (h5 : 0 <= b.room) (h6 : b.room <= 1000) (h7 : 0 <= sp) (h8 : sp <= 1000) (h9 : 0 <= st) (h10 : st <= 1000) :
  Comp Tryz.prog 215 [bedA b,natA k,.int .i64 a,chA sp st] (.int .i64 (kQ b.room (b.months.getD k default).g a sp st)):=by
 have e1 : ((b.months.map moA).length : Int) = b.months.length:=by rw [List.length_map]
 have q1 : 0 <= a * (b.months.getD k default).g:=Int.mul_nonneg h1 h3
 have q2 : a * (b.months.getD k default).g <= 1000 * 100:=Int.mul_le_mul h2 h4 h3 (by omega)
 have q3 : (a * (b.months.getD k default).g).tdiv 100 = (a * (b.months.getD k default).g) / 100:=Int.tdiv_eq_ediv_of_nonneg q1
 have hg:=kR 0 false [min b.room (a + a * (b.months.getD k default).g / 100 + sp) - st] (by simp)
 refine Comp.body (T:=tab) (res:=[.tmp 8]) za [] Tryz.func215 rfl (by kernel_rfl) Tryz.ntmps215 rfl (by simp only [List.length_cons,List.length_nil];decide) (by simp only [lowL,bedL,AV.low];rfl) ?_;conv=>whnf
 apply Walk.drawX za zi [] [] (hsK _) [_,_,_,_,_,_,_,_,_,_,_,.int .i64 (a * (b.months.getD k default).g / 100),_,_,_,_,_,_,_,_,_,_,_] (by kernel_rfl) rfl
 ·skip
  repeat' first|((with_reducible first|refine XInt.a ?_|apply Chk.go|apply ChkA.go);conv=>whnf)|(refine XIx.a ?_;conv=>whnf)|(with_reducible first|apply XAnd.mk|exact trivial)|((with_reducible refine zj.mk ?_ ?_);(first | omega | rfl | decide|exact ⟨rfl,by decide,rfl⟩|exact yx _|exact z5 _|exact z4 _|(unfold Room;constructor <;> ((try simp) <;> omega))|exact ⟨rfl,by simp only [List.length_map],by unfold Room;constructor <;> ((try simp) <;> omega)⟩|exact ⟨by omega,by omega,by unfold Room;constructor <;> ((try simp) <;> omega)⟩);conv=>whnf)|(exact zm.mk rfl rfl)|((refine zf.ret hg ?_);conv=>whnf)|((refine zm.mk (by rw [q3]) rfl))|fail
 ·skip
  repeat' first|((with_reducible first|apply ChkF.go|apply ChkB.go);conv=>whnf)|(with_reducible first|apply XAnd.mk|exact trivial)|fail
 conv=>whnf
 skip
 all_goals exact XOut.int rfl
theorem zad (m : Mo) : Comp Tryz.prog 216 [moA m] (chA m.pl m.th):=by
 refine Comp.body (T:=tab) (res:=[.cell 2 332]) za [] Tryz.func216 rfl (by kernel_rfl) Tryz.ntmps216 rfl (by simp only [List.length_cons,List.length_nil];decide) (by rfl) ?_;conv=>whnf
 skip
 exact ⟨.low rfl⟩
def zS (b : Bd) : Int:=max 0 (b.first - b.unsure)
theorem least_c (b : Bd) (h1 : 0 <= b.first) (h2 : b.first <= 1000) (h3 : 0 <= b.unsure) (h4 : b.unsure <= 1000) : Comp Tryz.prog 218 [bedA b] (.int .i64 (zS b)):=by
 have hg:=kR 0 false [b.first - b.unsure] (by simp)
 refine Comp.body (T:=tab) (res:=[.tmp 2]) za [] Tryz.func218 rfl (by kernel_rfl) Tryz.ntmps218 rfl (by simp only [List.length_cons,List.length_nil];decide) (by simp only [lowL,bedL];rfl) ?_;conv=>whnf
 repeat' first|((with_reducible refine XInt.a ?_);conv=>whnf)|((with_reducible refine zj.mk ?_ ?_);(first | omega | rfl | decide|exact ⟨rfl,by decide,rfl⟩|exact yx _|exact z5 _|exact z4 _|(unfold Room;constructor <;> ((try simp) <;> omega))|exact ⟨rfl,by simp only [List.length_map],by unfold Room;constructor <;> ((try simp) <;> omega)⟩|exact ⟨by omega,by omega,by unfold Room;constructor <;> ((try simp) <;> omega)⟩);conv=>whnf)|((refine zf.ret hg ?_);conv=>whnf)|fail
 all_goals exact XOut.int rfl
def dsk (b : Bd) : List Blk:=[.map [],.cells (bedC b ++ [.mp 0])]
theorem qf (b : Bd) (f : Nat -> Nat) (n : Nat) (h : f 0 = n) : (Blk.cells (bedC b ++ [.mp 0])).ren f = .cells (bedC b ++ [.mp n]):=by
 simp only [Blk.ren,zt,List.map_append]
 rw [<- zt,vm (fb b)]
 simp only [List.map_cons,List.map_nil,AV.ren,h]
theorem dsk_low (b : Bd) : ∀ x ∈ dsk b,x.low (dsk b).length = true:=fun x hx=>by
 simp only [dsk,List.mem_cons,List.not_mem_nil,or_false] at hx
 rcases hx with rfl | rfl
 ·rfl
 ·simp only [Blk.low,bedC,List.cons_append,List.nil_append,lowL,AV.low,kJ,js];rfl
theorem zaF (b : Bd) (hE : bedE b = 0) (h1 : b.months.length <= 100000) (hs : b.surveys = []) : ke Tryz.prog 327 [bedA b] (.tup [.ptr 1 0,.int .i64 0]) (dsk b):=by
 have hc:=ww b h1 (by rw [hs];simp)
 rw [hE] at hc
 have e2 : ((b.surveys.map suA).length : Int) = 0:=by rw [hs];rfl
 refine ke.body (T:=tab) (res:=[.tmp 2,.tmp 3]) za [16] Tryz.func327 rfl (by kernel_rfl) Tryz.ntmps327 rfl (by simp only [List.length_cons,List.length_nil];decide) (by simp only [lowL,bedL];rfl) rfl (dsk_low b) ?_;conv=>whnf
 repeat' first|((with_reducible first|refine XBr.y2 fun h=>?_|refine XBr.n2 fun h=>?_|refine XBr.bne (fun h=>?_) fun h=>?_) <;> conv=>whnf)|((refine zf.ret hc ?_);conv=>whnf)|fail
 refine Walk.loop za [] (fun _ : Unit=>True) (fun _=>[(2,.nilp),(3,.int .i64 0),(5,.ptr 1 0),(19,.int .i64 (b.surveys.map suA).length),(20,.int .i64 0)]) (fun _=>dsk b) (fun _=>0) () trivial rfl ⟨rfl,rfl,rfl,rfl,rfl,trivial⟩ ?_
 intro _ _
 conv=>whnf
 repeat' ((with_reducible apply XBr.dec) <;> (intro h;first|(exfalso;omega)|((try simp only [List.length_map] at h);first|(exfalso;omega)|(conv=>whnf))))
 exact qZ.mk' [0,1] rfl (by decide) ⟨rfl,congrArg some (qf b _ 0 rfl).symm,trivial⟩ rfl
theorem zaN (b : Bd) (share : Int) (hE : bedE b = 0) (h1 : b.months.length <= 100000) (hs : b.surveys = []) : ke Tryz.prog 214 [bedA b,.int .i64 share] (.tup [.ptr 1 0,.int .i64 (if inZ share 0 b.room = true then 0 else 3)]) (dsk b):=by
 have ho:=zaF b hE h1 hs
 have ha:=z0 b share
 generalize inZ share 0 b.room = r at ha
 refine ke.body (T:=tab) (res:=[.tmp 4,.tmp 5]) za [] Tryz.func214 rfl (by kernel_rfl) Tryz.ntmps214 rfl (by simp only [List.length_cons,List.length_nil];decide) (by simp only [lowL,bedL,AV.low];rfl) rfl (dsk_low b) ?_;conv=>whnf
 refine zf.give ho ?_
 conv=>whnf
 repeat' first|((with_reducible first|apply XBr.tt|refine XBr.y1 fun h=>?_|refine XBr.n1 fun h=>?_|refine XBr.beq (fun h=>?_) fun h=>?_) <;> conv=>whnf) | with_reducible apply XBr.not|((refine zf.ret ha ?_);conv=>whnf)|((with_reducible refine XBr.mk' (fun h=>?_) fun h=>?_) <;> conv=>whnf)|fail
 all_goals exact qZ.mk' [0,1] rfl (by decide) ⟨rfl,congrArg some ((qf b _ 0 rfl).trans (qf b _ 0 rfl).symm),trivial⟩ (by rw [h];rfl)
theorem zf.shared {b : Bd} {share : Int} {H : List Blk} {k : AV -> List Blk -> Prop} (hE : bedE b = 0) (h1 : b.months.length <= 100000) (hs : b.surveys = []) (hsh : inZ share 0 b.room = true)
  (hk : k (.tup [.ptr (H.length + 1) 0,.int .i64 0]) (H ++ [.map [],.cells (bedC b ++ [.mp H.length])])) : zf Tryz.prog 214 [bedA b,.int .i64 share] H k:=by
 have hg:=zaN b share hE h1 hs
 rw [if_pos hsh] at hg
 refine zf.give hg ?_
 have e : (dsk b).map (Blk.ren (H.length + ·)) = [.map [],.cells (bedC b ++ [.mp H.length])]:=by
  show [Blk.ren (H.length + ·) (.map []),Blk.ren (H.length + ·) (.cells (bedC b ++ [.mp 0]))] = _
  rw [qf b (H.length + ·) H.length (Nat.add_zero _)];rfl
 rw [e];exact hk
def arrA (r : List Int) : AV:=.agg (ints r)
def putC (rows : List (List Int)) (e i : Nat) (v : Int) : List (List Int):=rows.set e ((rows.getD e default).set i v)
structure kT (rows : List (List Int)) (n w : Nat) : Prop where
 n : rows.length = n
 w : ∀ r ∈ rows,r.length = w
theorem kT.at {rows : List (List Int)} {n w : Nat} (o : kT rows n w) {e : Nat} (he : e < n) : (rows.getD e default).length = w:=o.w _ (zn (by rw [o.n];exact he))
theorem kT.put {rows : List (List Int)} {n w : Nat} (o : kT rows n w) (e i : Nat) (v : Int) (he : e < n) : kT (putC rows e i v) n w:=by
 refine ⟨by unfold putC;rw [List.length_set];exact o.n,fun r hr=>?_⟩
 unfold putC at hr
 rcases List.mem_or_eq_of_mem_set hr with h | rfl
 ·exact o.w r h
 ·rw [List.length_set];exact o.at he
def kU (rows : List (List Int)) (e i : Nat) : Int:=(rows.getD e default).getD i default
theorem jj {rows : List (List Int)} {n w : Nat} (o : kT rows n w) {e i : Nat} (v : Int) (he : e < n) (hi : i < w) (e' i' : Nat) : kU (putC rows e i v) e' i' = if e' = e /\ i' = i then v else kU rows e' i':=by
 unfold kU putC
 have hr:=o.at he
 by_cases h1 : e' = e
 ·subst h1
  rw [List.getD_eq_getElem?_getD (l:=rows.set _ _),List.getElem?_set_self (by rw [o.n];exact he),Option.getD_some]
  by_cases h2 : i' = i
  ·subst h2
   rw [if_pos ⟨rfl,rfl⟩,List.getD_eq_getElem?_getD,List.getElem?_set_self (by rw [hr];exact hi)];rfl
  ·rw [if_neg (fun h=>h2 h.2),List.getD_eq_getElem?_getD,List.getElem?_set_ne (fun h=>h2 h.symm),<- List.getD_eq_getElem?_getD]
 ·rw [if_neg (fun h=>h1 h.1),List.getD_eq_getElem?_getD (l:=rows.set _ _),List.getElem?_set_ne (fun h=>h1 h.symm),<- List.getD_eq_getElem?_getD]
theorem kH {xs : List Int} {o : Nat} {k : List AV -> Prop} (i : Nat) (ho : o = i) (hi : i < xs.length) (h : k (.int .i64 (xs.getD i default) :: (ints xs).drop (i + 1))) : xdrop o (ints xs) k:=by
 subst ho
 refine za7 _ ?_ h
 rw [List.getElem?_map,List.getElem?_eq_getElem hi,List.getD_eq_getElem?_getD,List.getElem?_eq_getElem hi];rfl
theorem wB {o : Nat} {A : Unit -> Prop} {B : Nat -> Bool -> Prop} (h : B o false) : xStore.match_1 (fun _ _=>Prop) o false A B:=by
 cases o <;> exact h
theorem zP.rows {els : List AV} {n e' o w : Nat} {v : Int} {k : List AV -> Prop} (rows : List (List Int)) (e i : Nat) (he : e = e') (hE : els = rows.map arrA) (h1 : n = rows.length) (h2 : e < n) (hw : (rows.getD e default).length = w) (ho : o = i) (hi : i < w)
  (h : k ((putC rows e i v).map arrA)) : zP els n e' o w [.int .i64 v] k:=by
 subst he;subst hE;subst ho
 have hg : (rows.map arrA).getD e default = arrA (rows.getD e default):=by
  rw [List.getD_eq_getElem?_getD,List.getElem?_map,List.getD_eq_getElem?_getD,List.getElem?_eq_getElem (by omega)];rfl
 refine ⟨by rw [List.length_map];exact h1,h2,by simp;omega,by rw [hg];rfl,?_⟩
 rw [hg]
 show k ((rows.map arrA).set e (.agg (splice (ints (rows.getD e default)) o [.int .i64 v])))
 have : splice (ints (rows.getD e default)) o [.int .i64 v] = ints ((rows.getD e default).set o v):=by
  rw [ints,ints,List.map_set]
  have hl : o < ((rows.getD e default).map (AV.int .i64)).length:=by rw [List.length_map];omega
  rw [List.set_eq_take_append_cons_drop,if_pos hl]
  simp [splice]
 rw [this]
 unfold putC at h
 rw [List.map_set] at h
 exact h
structure BedOk (b : Bd) : Prop where
 r1 : 1 <= b.room
 r2 : b.room <= 120
 m1 : 1 <= b.months.length
 m2 : b.months.length <= 10
 f1 : 0 <= b.first
 f2 : b.first <= b.room
 u1 : 0 <= b.unsure
 u2 : b.unsure <= 40
 mo : ∀ m ∈ b.months,0 <= m.g /\ m.g <= 100 /\ 0 <= m.r /\ m.r <= b.room /\ 0 <= m.pl /\ m.pl <= m.ph /\ m.ph <= 60 /\ 0 <= m.tl /\ m.tl <= m.th /\ m.th <= 60
theorem bedE_ok (b : Bd) (hs : b.surveys = []) : bedE b = 0 ↔ BedOk b:=by
 unfold bedE
 rw [hs]
 constructor
 ·intro h
  split at h;· cases h
  split at h;· cases h
  split at h;· cases h
  rename_i h1 h2 h3
  simp only [Bool.not_eq_false,not_or,zz,List.all_eq_true,moR,yX,Bool.and_eq_true] at h1 h2 h3
  exact ⟨h1.1,h1.2,by omega,by omega,h3.1.1,h3.1.2,h3.2.1.1,h3.2.1.2,fun m hm=>by have:=h3.2.2 m hm;omega⟩
 ·intro o
  have h1:=o.r1;have h2:=o.r2;have h3:=o.m1;have h4:=o.m2;have h5:=o.f1;have h6:=o.f2;have h7:=o.u1;have h8:=o.u2
  have hm : b.months.all (moR b) = true:=List.all_eq_true.2 fun m hm=>by
   have:=o.mo m hm
   simp only [moR,yX,Bool.and_eq_true,zz];omega
  rw [if_neg (by rw [zz.2 ⟨h1,h2⟩];simp),if_neg (by rw [zz.2 ⟨by omega,by omega⟩];simp),if_neg (by rw [zz.2 ⟨h5,h6⟩,zz.2 ⟨h7,h8⟩,hm];simp)]
  rfl
def lieR (b : Bd) (j n : Nat) : Int:=kQ b.room (b.months.getD j default).g n (b.months.getD j default).pl (b.months.getD j default).th
theorem qM {b : Bd} (o : BedOk b) {j n : Nat} (hj : j < b.months.length) : 0 <= lieR b j n /\ lieR b j n <= b.room:=by
 have hm:=o.mo _ (zn (d:=default) hj)
 have:=o.r1
 exact gW (by omega) (by omega)
def yj (nx : Nat -> Int) (lies : Nat) : Nat -> Int
 | 0=>-1
 | r + 1=>if nx (lies - r) = -1 then yj nx lies r else max (yj nx lies r) (r + nx (lies - r))
def valM (b : Bd) (share : Int) : Nat -> Nat -> Int
 | 0,q=>if share <= q then 0 else -1
 | k + 1,q=>yj (valM b share k) (lieR b (b.months.length - (k + 1)) q).toNat ((lieR b (b.months.length - (k + 1)) q).toNat + 1)
theorem fI {nx : Nat -> Int} {lies c : Nat} (h : ∀ q,q <= lies -> -1 <= nx q /\ nx q <= c) : ∀ r,r <= lies + 1 -> -1 <= yj nx lies r /\ yj nx lies r <= c + lies
 | 0,_=>by simp only [yj];omega
 | r + 1,hr=>by
   have ih:=fI h r (by omega)
   have:=h (lies - r) (by omega)
   unfold yj
   split <;> omega
theorem gx {b : Bd} (o : BedOk b) (share : Int) : ∀ k,k <= b.months.length -> ∀ q,-1 <= valM b share k q /\ valM b share k q <= 120 * k
 | 0,_,q=>by unfold valM;split <;> omega
 | k + 1,hk,q=>by
   have hl:=qM o (j:=b.months.length - (k + 1)) (n:=q) (by have:=o.m1;omega)
   have:=o.r2
   have:=fI (nx:=valM b share k) (lies:=(lieR b (b.months.length - (k + 1)) q).toNat) (c:=120 * k) (fun q _=>gx o share k (by omega) q) _ (Nat.le_refl _)
   unfold valM
   omega
def kz (nx : Nat -> Int) (lies : Nat) (v : Int) (r : Nat) : Bool:=nx (lies - r) != -1 && ((r : Int) + nx (lies - r) == v)
def yk (b : Bd) (share : Int) : Nat -> Nat -> List Int
 | 0,_=>[]
 | k + 1,a=>match (List.range ((lieR b (b.months.length - (k + 1)) a).toNat + 1)).find? (kz (valM b share k) (lieR b (b.months.length - (k + 1)) a).toNat (valM b share (k + 1) a)) with
   | some r=>(r : Int) :: yk b share k ((lieR b (b.months.length - (k + 1)) a).toNat - r)
   | none=>yk b share k a
theorem zbF {b : Bd} {share : Int} {k a lies r : Nat} (hl : lieR b (b.months.length - (k + 1)) a = lies) (hr : r <= lies) (h : kz (valM b share k) lies (valM b share (k + 1) a) r = true) (h2 : ∀ q,q < r -> kz (valM b share k) lies (valM b share (k + 1) a) q = false) :
  yk b share (k + 1) a = (r : Int) :: yk b share k (lies - r):=by
 have : (List.range (lies + 1)).find? (kz (valM b share k) lies (valM b share (k + 1) a)) = some r:=List.find?_range_eq_some.2 ⟨h,List.mem_range.2 (by omega),fun j hj=>by rw [h2 j hj];rfl⟩
 show (match (List.range ((lieR b (b.months.length - (k + 1)) a).toNat + 1)).find? (kz (valM b share k) (lieR b (b.months.length - (k + 1)) a).toNat (valM b share (k + 1) a)) with | some r=>(r : Int) :: yk b share k ((lieR b (b.months.length - (k + 1)) a).toNat - r) | none=>yk b share k a) = _
 rw [hl,Int.toNat_natCast,this]
theorem zbk {b : Bd} {share : Int} {k a lies : Nat} (hl : lieR b (b.months.length - (k + 1)) a = lies) (h2 : ∀ q,q < lies + 1 -> kz (valM b share k) lies (valM b share (k + 1) a) q = false) :
  yk b share (k + 1) a = yk b share k a:=by
 have : (List.range (lies + 1)).find? (kz (valM b share k) lies (valM b share (k + 1) a)) = none:=List.find?_range_eq_none.2 fun j hj=>by rw [h2 j hj];rfl
 show (match (List.range ((lieR b (b.months.length - (k + 1)) a).toNat + 1)).find? (kz (valM b share k) (lieR b (b.months.length - (k + 1)) a).toNat (valM b share (k + 1) a)) with | some r=>(r : Int) :: yk b share k ((lieR b (b.months.length - (k + 1)) a).toNat - r) | none=>yk b share k a) = _
 rw [hl,Int.toNat_natCast,this]
def mostA (b : Bd) (share : Int) : AV:=if valM b share b.months.length (zS b).toNat = -1 then .tup [.sl true [],.int .i64 6] else .tup [slA (yk b share b.months.length (zS b).toNat),.int .i64 0]
set_option maxHeartbeats 1000000 in
theorem most_c (b : Bd) (share : Int) (hE : bedE b = 0) (hs : b.surveys = []) (hsh : 0 <= share /\ share <= b.room) : Comp Tryz.prog 45 [bedA b,.int .i64 share] (mostA b share):=by
 have ok:=(bedE_ok b hs).1 hE
 have m1:=ok.m1
 have m2:=ok.m2
 have r1:=ok.r1
 have r2:=ok.r2
 have hi : inZ share 0 b.room = true:=zz.2 hsh
 have e1 : ((b.months.map moA).length : Int) = b.months.length:=by rw [List.length_map]
 refine Comp.body (T:=tab) (res:=[.tmp 4,.tmp 5]) za [] Tryz.func45 rfl (by kernel_rfl) Tryz.ntmps45 rfl (by simp only [List.length_cons,List.length_nil];decide) (by simp only [lowL,bedL,AV.low];rfl) ?_;conv=>whnf
 refine zf.shared hE (by omega) hs hi ?_
 conv=>whnf
 repeat' first|((with_reducible first|refine XBr.y2 fun h=>?_|refine XBr.n2 fun h=>?_|refine XBr.bne (fun h=>?_) fun h=>?_|refine XInt.a ?_) <;> conv=>whnf)|((with_reducible refine zj.mk ?_ ?_);(first | omega | rfl | decide|exact ⟨rfl,by decide,rfl⟩|exact yx _|exact z5 _|exact z4 _|(unfold Room;constructor <;> ((try simp) <;> omega))|exact ⟨rfl,by simp only [List.length_map],by unfold Room;constructor <;> ((try simp) <;> omega)⟩|exact ⟨by omega,by omega,by unfold Room;constructor <;> ((try simp) <;> omega)⟩);conv=>whnf)|fail
 refine Walk.loop za [] (fun g : Nat × List (List Int)=>g.1 <= 121 /\ kT g.2 (b.months.length + 1) 121 /\ ∀ q,q < g.1 -> kU g.2 b.months.length q = valM b share 0 q)
  (fun g=>[(1,.int .i64 share),(2,.pim (bedC b)),(4,.sl true []),(5,.int .i64 0),(6,.ptr 1 0),(8,.gr 2 (b.months.length + 1)),(35,natA g.1)]) (fun g=>[.map [],.cells (bedC b ++ [.mp 0]),.grow 338 false (g.2.map arrA)]) (fun g=>121 - g.1) (0,List.replicate (b.months.length + 1) (List.replicate 121 0)) ⟨Nat.zero_le _,⟨by simp,fun r hr=>by rw [List.eq_of_mem_replicate hr];simp⟩,fun q hq=>by omega⟩ ?_ ⟨rfl,rfl,rfl,rfl,rfl,?_,rfl,trivial⟩ ?_
 ·show _ = [Blk.map [],Blk.cells (bedC b ++ [.mp 0]),Blk.grow 338 false (List.replicate (((b.months.map moA).length : Int) + 1).toNat (AV.agg (List.replicate 121 (AV.int .i64 0))))]
  rw [show (((b.months.map moA).length : Int) + 1).toNat = b.months.length + 1 by omega,List.map_replicate]
  rfl
 ·exact congrArg (fun n=>some (AV.gr 2 n)) (by omega)
 rintro ⟨n,rows⟩ ⟨hn,ro,hv⟩
 dsimp only at hn ro hv ⊢
 have ro1:=ro.put b.months.length n (-1) (by omega)
 have c1:=fun (h : n < 121)=>jj ro (-1) (show b.months.length < b.months.length + 1 by omega) h
 have c2:=fun (h : n < 121)=>jj ro1 0 (show b.months.length < b.months.length + 1 by omega) h
 conv=>whnf
 repeat' first|((with_reducible refine XInt.a ?_);conv=>whnf)|((with_reducible apply XBr.dec) <;> (intro h;first|(exfalso;omega)|((try simp only [List.length_map] at h);first|(exfalso;omega)|(conv=>whnf))))|((first|(refine zj.mk ⟨by rw [List.length_map];first|exact ro.n|exact ro1.n,rfl,by omega,by omega⟩ ?_)|refine XArr.mk (by omega) (by omega) ?_|refine wB ?_|refine zP.rows (w:=121) rows b.months.length n (by omega) rfl ro.n.symm (by omega) (ro.at (by omega)) (by omega) (by omega) ?_|refine zP.rows (w:=121) _ b.months.length n (by omega) rfl ro1.n.symm (by omega) (ro1.at (by omega)) (by omega) (by omega) ?_);conv=>whnf)|fail
 ·refine zu.go (n + 1,putC (putC rows b.months.length n (-1)) b.months.length n 0) ⟨by dsimp only;omega,ro1.put _ _ _ (by omega),fun q hq=>?_⟩ (by dsimp only;omega) rfl ⟨rfl,rfl,rfl,rfl,rfl,rfl,rfl,trivial⟩
  dsimp only at hq ⊢
  rw [c2 (by omega)]
  by_cases hqn : q = n
  ·rw [if_pos ⟨rfl,hqn⟩,hqn];unfold valM;rw [if_pos h]
  ·rw [if_neg (fun h=>hqn h.2),c1 (by omega),if_neg (fun h=>hqn h.2),hv q (by omega)]
 ·refine zu.go (n + 1,putC rows b.months.length n (-1)) ⟨by dsimp only;omega,ro1,fun q hq=>?_⟩ (by dsimp only;omega) rfl ⟨rfl,rfl,rfl,rfl,rfl,rfl,rfl,trivial⟩
  dsimp only at hq ⊢
  rw [c1 (by omega)]
  by_cases hqn : q = n
  ·rw [if_pos ⟨rfl,hqn⟩,hqn];unfold valM;rw [if_neg h]
  ·rw [if_neg (fun h=>hqn h.2),hv q (by omega)]
 clear ro1 c1 c2
 obtain rfl : n = 121:=by omega
 refine Walk.loop za [] (fun g : Nat × List (List Int)=>g.1 <= b.months.length /\ kT g.2 (b.months.length + 1) 121 /\ ∀ i,i <= g.1 -> ∀ q : Nat,(q : Int) <= b.room -> kU g.2 (b.months.length - i) q = valM b share i q)
  (fun g=>[(2,.pim (bedC b)),(4,.sl true []),(5,.int .i64 0),(6,.ptr 1 0),(8,.gr 2 (b.months.length + 1)),(10,.int .i64 (((b.months.map moA).length : Int) - 1 - g.1))]) (fun g=>[.map [],.cells (bedC b ++ [.mp 0]),.grow 338 false (g.2.map arrA)]) (fun g=>b.months.length - g.1) (0,rows)
  ⟨Nat.zero_le _,ro,fun i hi q hq=>by obtain rfl : i = 0:=by { dsimp only at hi;omega };exact hv q (by omega)⟩ rfl ⟨rfl,rfl,rfl,rfl,rfl,congrArg (fun z=>some (AV.int .i64 z)) (by dsimp only;omega),trivial⟩ ?_
 clear hv ro
 rintro ⟨k,rows⟩ ⟨hk,ro,hv⟩
 dsimp only at hk ro hv ⊢
 conv=>whnf
 repeat' first|((with_reducible refine XInt.a ?_);conv=>whnf)|((with_reducible apply XBr.dec) <;> (intro h;first|(exfalso;omega)|((try simp only [List.length_map] at h);first|(exfalso;omega)|(conv=>whnf))))|fail
 ·obtain ⟨j,hj⟩ : ∃ j,j = b.months.length - (k + 1):=⟨_,rfl⟩
  have hj1 : j + 1 = b.months.length - k:=by omega
  have hjm:=ok.mo _ (zn (d:=default) (show j < b.months.length by omega))
  refine Walk.loop za [] (fun g : Nat × List (List Int)=>(g.1 : Int) <= b.room + 1 /\ kT g.2 (b.months.length + 1) 121 /\ (∀ i,i <= k -> ∀ q : Nat,(q : Int) <= b.room -> kU g.2 (b.months.length - i) q = valM b share i q) /\ ∀ q,q < g.1 -> kU g.2 j q = valM b share (k + 1) q)
   (fun g=>[(2,.pim (bedC b)),(4,.sl true []),(5,.int .i64 0),(6,.ptr 1 0),(8,.gr 2 (b.months.length + 1)),(10,natA j),(66,.int .i64 (b.room + 1)),(67,natA g.1)]) (fun g=>[.map [],.cells (bedC b ++ [.mp 0]),.grow 338 false (g.2.map arrA)]) (fun g=>b.room.toNat + 1 - g.1) (0,rows)
   ⟨by dsimp only;omega,ro,hv,fun q hq=>by dsimp only at hq;omega⟩ rfl ⟨rfl,rfl,rfl,rfl,rfl,congrArg (fun z=>some (AV.int .i64 z)) (by omega),rfl,rfl,trivial⟩ ?_
  clear hv ro
  rintro ⟨n,rows⟩ ⟨hn,ro,hv,hw⟩
  dsimp only at hn ro hv hw ⊢
  have ro1:=ro.put j n (-1) (by omega)
  have c1:=fun (h : n < 121)=>jj ro (-1) (show j < b.months.length + 1 by omega) h
  have hgr:=fun (h : n < 121)=>zae b j n (b.months.getD j default).pl (b.months.getD j default).th (by omega) (by omega) (by omega) (by omega) (by omega) (by omega) (by omega) (by omega) (by omega) (by omega) (by omega)
  have hlb:=qM ok (j:=j) (n:=n) (by omega)
  conv=>whnf
  repeat' first|((with_reducible refine XInt.a ?_);conv=>whnf)|((with_reducible apply XBr.dec) <;> (intro h;first|(exfalso;omega)|((try simp only [List.length_map] at h);first|(exfalso;omega)|(conv=>whnf))))|((first|(refine zj.mk ⟨by rw [List.length_map];first|exact ro.n|exact ro1.n,rfl,by omega,by omega⟩ ?_)|refine XArr.mk (by omega) (by omega) ?_|refine wB ?_|refine zP.rows (w:=121) rows j n (by omega) rfl ro.n.symm (by omega) (ro.at (by omega)) (by omega) (by omega) ?_);conv=>whnf)|fail
  ·have hgc:=hgr (by omega)
   change Comp Tryz.prog _ _ (.int .i64 (lieR b j n)) at hgc
   apply Walk.drawX za zi [] [] (hsK _) [_,_,_,_,_,_,_,_,_,_,_,_,_,_] (by kernel_rfl) rfl
   ·skip
    repeat' first|((with_reducible first|apply Chk.go|apply ChkA.go);conv=>whnf)|(refine XIx.a ?_;conv=>whnf)|(with_reducible first|apply XAnd.mk|exact trivial)|(exact zm.mk rfl rfl)|((first|refine zf.ret (zad (b.months.getD j default)) ?_|refine zf.ret hgc ?_);conv=>whnf)|fail
   ·skip
    repeat' first|((with_reducible first|apply ChkF.go|apply ChkB.go);conv=>whnf)|(with_reducible first|apply XAnd.mk|exact trivial)|fail
   conv=>whnf
   repeat' ((with_reducible refine XInt.a ?_);conv=>whnf)
   obtain ⟨li,hli⟩ : ∃ li : Nat,lieR b j n = li:=⟨(lieR b j n).toNat,by omega⟩
   have hstep : valM b share (k + 1) n = yj (valM b share k) li (li + 1):=by
    show yj _ (lieR b (b.months.length - (k + 1)) n).toNat ((lieR b (b.months.length - (k + 1)) n).toNat + 1) = _
    rw [<- hj,hli];rfl
   rw [hli] at hlb ⊢
   have c1':=c1 (by omega)
   refine Walk.loop za [] (fun g : Nat × List (List Int)=>g.1 <= li + 1 /\ kT g.2 (b.months.length + 1) 121 /\ (∀ i,i <= k -> ∀ q : Nat,(q : Int) <= b.room -> kU g.2 (b.months.length - i) q = valM b share i q) /\ (∀ q,q < n -> kU g.2 j q = valM b share (k + 1) q) /\ kU g.2 j n = yj (valM b share k) li g.1)
    (fun g=>[(2,.pim (bedC b)),(4,.sl true []),(5,.int .i64 0),(6,.ptr 1 0),(8,.gr 2 (b.months.length + 1)),(10,natA j),(11,natA n),(12,natA li),(66,.int .i64 (b.room + 1)),(67,natA n),(89,.int .i64 ((li : Int) + 1)),(90,natA g.1)]) (fun g=>[.map [],.cells (bedC b ++ [.mp 0]),.grow 338 false (g.2.map arrA)]) (fun g=>li + 1 - g.1) (0,putC rows j n (-1))
    ⟨Nat.zero_le _,ro1,fun i hi q hq=>by dsimp only;rw [c1',if_neg (by omega),hv i hi q hq],fun q hq=>by dsimp only;rw [c1',if_neg (by omega),hw q hq],by dsimp only;rw [c1',if_pos ⟨rfl,rfl⟩];rfl⟩ rfl ⟨rfl,rfl,rfl,rfl,rfl,rfl,rfl,rfl,rfl,rfl,rfl,rfl,trivial⟩ ?_
   clear hv ro hw c1 c1' ro1 hgr
   rintro ⟨r,rows⟩ ⟨hr,ro,hv,hw,hc⟩
   dsimp only at hr ro hv hw hc ⊢
   have hnx:=fun (h : r <= li)=>hv k (Nat.le_refl k) (li - r) (by omega)
   have hnb:=gx ok share k (by omega) (li - r)
   have hsb:=fI (nx:=valM b share k) (lies:=li) (c:=120 * k) (fun q _=>gx ok share k (by omega) q) r (by omega)
   have hst : yj (valM b share k) li (r + 1) = if valM b share k (li - r) = -1 then yj (valM b share k) li r else max (yj (valM b share k) li r) (r + valM b share k (li - r)):=rfl
   have hvx:=fun (h : r <= li)=>(show (rows.getD ((j : Int) + 1).toNat default).getD (li - r) default = valM b share k (li - r) by rw [show ((j : Int) + 1).toNat = b.months.length - k by omega];exact hnx h)
   have cp:=fun v=>jj ro v (show j < b.months.length + 1 by omega) (show n < 121 by omega)
   conv=>whnf
   repeat' first|((with_reducible first|refine XBr.y2 fun h=>?_|refine XBr.n2 fun h=>?_|refine XBr.bne (fun h=>?_) fun h=>?_|refine XInt.a ?_) <;> conv=>whnf)|((with_reducible apply XBr.dec) <;> (intro h;first|(exfalso;omega)|((try simp only [List.length_map] at h);first|(exfalso;omega)|(conv=>whnf))))|((first|(refine zj.mk ⟨by rw [List.length_map];exact ro.n,rfl,by omega,by omega⟩ ?_)|refine XArr.mk (by omega) (by omega) ?_|refine XGet.map ro.n.symm (by omega) ?_|(refine kH (li - r) (by omega) (by rw [ro.at (by omega)];omega) ?_));conv=>whnf)|fail
   ·have hv1:=hvx (by omega)
    have hv2 : -1 <= (rows.getD ((j : Int) + 1).toNat default).getD (li - r) default /\ (rows.getD ((j : Int) + 1).toNat default).getD (li - r) default <= 120 * k:=by rw [hv1];exact hnb
    apply Walk.drawX za zi [] [16] (hsV _ [id,fun H=>H.set 2 (.grow 338 false ((putC rows j n (max ((rows.getD j default).getD n default) ((r : Int) + (rows.getD ((j : Int) + 1).toNat default).getD (li - r) default))).map arrA))]) [_,_,_,_,_,_,_,_,_,_,_,_,_,_,_,_,_] (by kernel_rfl) rfl
    ·skip
     repeat' first|((with_reducible first|refine XInt.a ?_|apply Chk.go|apply ChkA.go);conv=>whnf)|(with_reducible first|apply XAnd.mk|exact trivial)|((with_reducible refine zj.mk ?_ ?_);(first | omega | rfl | decide|exact ⟨rfl,by decide,rfl⟩|exact yx _|exact z5 _|exact z4 _|(unfold Room;constructor <;> ((try simp) <;> omega))|exact ⟨rfl,by simp only [List.length_map],by unfold Room;constructor <;> ((try simp) <;> omega)⟩|exact ⟨by omega,by omega,by unfold Room;constructor <;> ((try simp) <;> omega)⟩);conv=>whnf)|(exact zm.mk rfl rfl)|((first|(refine zj.mk ⟨by rw [List.length_map];first|exact ro.n|exact (ro.put j n _ (by omega)).n,rfl,by omega,by omega⟩ ?_)|refine XArr.mk (by omega) (by omega) ?_|refine XGet.map ro.n.symm (by omega) ?_|(refine kH n (by omega) (by rw [ro.at (by omega)];omega) ?_)|refine zf.ret (kR _ false [_] (by simp)) ?_|refine wB ?_|refine zP.rows (w:=121) rows j n (by omega) rfl ro.n.symm (by omega) (ro.at (by omega)) (by omega) (by omega) ?_);conv=>whnf)|fail
    ·skip
     repeat' first|((with_reducible first|apply Chk.go|apply ChkF.go|apply ChkB.go);conv=>whnf)|(with_reducible first|apply XAnd.mk|exact trivial)|(exact zm.mk rfl rfl)|((refine zj.mk ⟨by rw [List.length_map];first|exact ro.n|exact (ro.put j n _ (by omega)).n,rfl,by omega,by omega⟩ ?_);conv=>whnf)|fail
    conv=>whnf
    repeat' ((with_reducible refine XInt.a ?_);conv=>whnf)
    have hcv : max ((rows.getD j default).getD n default) ((r : Int) + (rows.getD ((j : Int) + 1).toNat default).getD (li - r) default) = yj (valM b share k) li (r + 1):=by
     rw [hst,if_neg (by rw [<- hv1];exact h),hv1,<- hc];rfl
    refine zu.go (r + 1,putC rows j n (max ((rows.getD j default).getD n default) ((r : Int) + (rows.getD ((j : Int) + 1).toNat default).getD (li - r) default))) ⟨by dsimp only;omega,ro.put _ _ _ (by omega),fun i hi q hq=>?_,fun q hq=>?_,?_⟩ (by dsimp only;omega) rfl ⟨rfl,rfl,rfl,rfl,rfl,rfl,rfl,rfl,rfl,rfl,rfl,rfl,trivial⟩
    ·dsimp only;rw [cp,if_neg (by omega),hv i hi q hq]
    ·dsimp only;rw [cp,if_neg (by omega),hw q hq]
    ·dsimp only;rw [cp,if_pos ⟨rfl,rfl⟩,hcv]
   ·refine zu.go (r + 1,rows) ⟨by dsimp only;omega,ro,hv,hw,?_⟩ (by dsimp only;omega) rfl ⟨rfl,rfl,rfl,rfl,rfl,rfl,rfl,rfl,rfl,rfl,rfl,rfl,trivial⟩
    dsimp only
    rw [hc,hst,if_pos (by rw [<- hvx (by omega)];exact h)]
   ·obtain rfl : r = li + 1:=by omega
    refine zu.go (n + 1,rows) ⟨by dsimp only;omega,ro,hv,fun q hq=>?_⟩ (by dsimp only;omega) rfl ⟨rfl,rfl,rfl,rfl,rfl,rfl,rfl,rfl,trivial⟩
    dsimp only at hq ⊢
    by_cases hqn : q = n
    ·rw [hqn,hc,hstep]
    ·exact hw q (by omega)
  ·have hn1 : (n : Int) = b.room + 1:=by omega
   refine zu.go (k + 1,rows) ⟨by dsimp only;omega,ro,fun i hi q hq=>?_⟩ (by dsimp only;omega) rfl ⟨rfl,rfl,rfl,rfl,rfl,congrArg (fun z=>some (AV.int .i64 z)) (by dsimp only;omega),trivial⟩
   dsimp only at hi ⊢
   by_cases hik : i = k + 1
   ·rw [hik,<- hj];exact hw q (by omega)
   ·exact hv i (by omega) q hq
 ·obtain rfl : k = b.months.length:=by omega
  have hle:=least_c b ok.f1 (by have:=ok.f2;omega) ok.u1 (by have:=ok.u2;omega)
  obtain ⟨a0,ha0⟩ : ∃ a0 : Nat,zS b = a0:=⟨(zS b).toNat,by unfold zS;omega⟩
  have ha1 : (a0 : Int) <= b.room:=by rw [<- ha0];unfold zS;have:=ok.f2;have:=ok.u1;omega
  have hv0 : (rows.getD 0 default).getD a0 default = valM b share b.months.length a0:=by
   have:=hv b.months.length (Nat.le_refl _) a0 ha1
   rw [Nat.sub_self] at this;exact this
  unfold mostA
  rw [ha0,Int.toNat_natCast]
  rw [ha0] at hle
  repeat' first|((with_reducible first|refine XBr.y1 fun h=>?_|refine XBr.n1 fun h=>?_|refine XBr.beq (fun h=>?_) fun h=>?_) <;> conv=>whnf)|((first|refine zf.ret hle ?_|(refine zj.mk ⟨by rw [List.length_map];exact ro.n,rfl,by omega,by omega⟩ ?_)|refine XArr.mk (by omega) (by omega) ?_|refine XGet.map ro.n.symm (by omega) ?_|(refine kH a0 (by omega) (by rw [ro.at (by omega)];omega) ?_));conv=>whnf)|fail
  ·rw [if_pos (by rw [<- hv0];exact h)];exact ⟨.low rfl⟩
  rw [if_neg (by rw [<- hv0];exact h)]
  refine Walk.nilgr 16 3 rfl ?_
  refine Walk.loop za [] (fun g : Nat × Nat × List Int=>g.1 <= b.months.length /\ (g.2.1 : Int) <= b.room /\ g.2.2 ++ yk b share (b.months.length - g.1) g.2.1 = yk b share b.months.length a0 /\ g.2.2.length <= g.1)
   (fun g=>[(2,.pim (bedC b)),(4,.sl true []),(5,.int .i64 0),(6,.ptr 1 0),(8,.gr 2 (b.months.length + 1)),(15,natA g.2.1),(16,.gr 3 g.2.2.length),(132,.int .i64 (b.months.map moA).length),(133,natA g.1)])
   (fun g=>[.map [],.cells (bedC b ++ [.mp 0]),.grow 338 false (rows.map arrA),.grow 3 g.2.2.isEmpty (ints g.2.2)]) (fun g=>b.months.length - g.1) (0,a0,[]) ⟨Nat.zero_le _,ha1,rfl,Nat.le_refl _⟩ rfl ⟨rfl,rfl,rfl,rfl,rfl,rfl,rfl,rfl,rfl,trivial⟩ ?_
  clear hv0 h
  rintro ⟨m,a,out⟩ ⟨hm,ham,hpl,hol⟩
  dsimp only at hm ham hpl hol ⊢
  conv=>whnf
  repeat' ((with_reducible apply XBr.dec) <;> (intro h;first|(exfalso;omega)|((try simp only [List.length_map] at h);first|(exfalso;omega)|(conv=>whnf))))
  ·have hjm:=ok.mo _ (zn (d:=default) (show m < b.months.length by omega))
   obtain ⟨k,hkm⟩ : ∃ k,b.months.length - m = k + 1:=⟨b.months.length - m - 1,by omega⟩
   have hmk : b.months.length - (k + 1) = m:=by omega
   have hgc:=zae b m a (b.months.getD m default).pl (b.months.getD m default).th (by omega) (by omega) (by omega) (by omega) (by omega) (by omega) (by omega) (by omega) (by omega) (by omega) (by omega)
   change Comp Tryz.prog _ _ (.int .i64 (lieR b m a)) at hgc
   have hlb:=qM ok (j:=m) (n:=a) (by omega)
   apply Walk.drawX za zi [] [] (hsK _) [_,_,_,_,_,_,_,_,_,_,_,_,_,_] (by kernel_rfl) rfl
   ·skip
    repeat' first|((with_reducible first|apply Chk.go|apply ChkA.go);conv=>whnf)|(refine XIx.a ?_;conv=>whnf)|(with_reducible first|apply XAnd.mk|exact trivial)|(exact zm.mk rfl rfl)|((first|refine zf.ret (zad (b.months.getD m default)) ?_|refine zf.ret hgc ?_);conv=>whnf)|fail
   ·skip
    repeat' first|((with_reducible first|apply ChkF.go|apply ChkB.go);conv=>whnf)|(with_reducible first|apply XAnd.mk|exact trivial)|fail
   conv=>whnf
   repeat' ((with_reducible refine XInt.a ?_);conv=>whnf)
   obtain ⟨li,hli⟩ : ∃ li : Nat,lieR b m a = li:=⟨(lieR b m a).toNat,by omega⟩
   have hps:=fun r=>zbF (b:=b) (share:=share) (k:=k) (a:=a) (lies:=li) (r:=r) (by rw [hmk];exact hli)
   have hpn:=zbk (b:=b) (share:=share) (k:=k) (a:=a) (lies:=li) (by rw [hmk];exact hli)
   rw [hkm] at hpl
   rw [hli] at hlb ⊢
   refine Walk.loop za [] (fun r : Nat=>r <= li + 1 /\ ∀ q,q < r -> kz (valM b share k) li (valM b share (k + 1) a) q = false)
    (fun r=>[(2,.pim (bedC b)),(4,.sl true []),(5,.int .i64 0),(6,.ptr 1 0),(8,.gr 2 (b.months.length + 1)),(15,natA a),(16,.gr 3 out.length),(17,natA m),(18,natA li),(132,.int .i64 (b.months.map moA).length),(133,natA m),(150,.int .i64 ((li : Int) + 1)),(151,natA r)])
    (fun _=>[.map [],.cells (bedC b ++ [.mp 0]),.grow 338 false (rows.map arrA),.grow 3 out.isEmpty (ints out)]) (fun r=>li + 1 - r) 0 ⟨Nat.zero_le _,fun q hq=>by omega⟩ rfl ⟨rfl,rfl,rfl,rfl,rfl,rfl,rfl,rfl,rfl,rfl,rfl,rfl,rfl,trivial⟩ ?_
   rintro r ⟨hr,hno⟩
   have hnx:=fun (h : r <= li)=>(show (rows.getD ((m : Int) + 1).toNat default).getD (li - r) default = valM b share k (li - r) by rw [show ((m : Int) + 1).toNat = b.months.length - k by omega];exact hv k (by omega) (li - r) (by omega))
   have hnb:=gx ok share k (by omega) (li - r)
   have hva : (rows.getD m default).getD a default = valM b share (k + 1) a:=by
    have:=hv (k + 1) (by omega) a ham
    rw [hmk] at this;exact this
   have hrk : kz (valM b share k) li (valM b share (k + 1) a) r = (valM b share k (li - r) != -1 && ((r : Int) + valM b share k (li - r) == valM b share (k + 1) a)):=rfl
   have hvb : r <= li -> -1 <= (rows.getD ((m : Int) + 1).toNat default).getD (li - r) default /\ (rows.getD ((m : Int) + 1).toNat default).getD (li - r) default <= 120 * k:=fun h=>by rw [hnx h];exact hnb
   conv=>whnf
   repeat' first|((with_reducible first|apply XBr.tt|apply XBr.ff|refine XBr.y1 fun h=>?_|refine XBr.n1 fun h=>?_|refine XBr.beq (fun h=>?_) fun h=>?_|refine XBr.y2 fun h=>?_|refine XBr.n2 fun h=>?_|refine XBr.bne (fun h=>?_) fun h=>?_|refine XInt.a ?_) <;> conv=>whnf)|((with_reducible apply XBr.dec) <;> (intro h;first|(exfalso;omega)|((try simp only [List.length_map] at h);first|(exfalso;omega)|(conv=>whnf))))|((with_reducible refine zj.mk ?_ ?_);(first | omega | rfl | decide|exact ⟨rfl,by decide,rfl⟩|exact yx _|exact z5 _|exact z4 _|(unfold Room;constructor <;> ((try simp) <;> omega))|exact ⟨rfl,by simp only [List.length_map],by unfold Room;constructor <;> ((try simp) <;> omega)⟩|exact ⟨by omega,by omega,by unfold Room;constructor <;> ((try simp) <;> omega)⟩);conv=>whnf)|((first|(refine zj.mk ⟨by rw [List.length_map];exact ro.n,rfl,by omega,by omega⟩ ?_)|refine XArr.mk (by omega) (by omega) ?_|refine XGet.map ro.n.symm (by omega) ?_|(refine kH (li - r) (by omega) (by rw [ro.at (by omega)];omega) ?_)|(refine kH a (by omega) (by rw [ro.at (by omega)];omega) ?_));conv=>whnf)|fail
   ·rename_i h1 h2
    have h3 : (r : Int) + (rows.getD ((m : Int) + 1).toNat default).getD (li - r) default = (rows.getD m default).getD a default:=h
    rw [hnx (by omega)] at h2 h3
    have hr1 : kz (valM b share k) li (valM b share (k + 1) a) r = true:=by rw [hrk,<- hva,h3];simp [h2]
    refine zu.go (m + 1,li - r,out ++ [(r : Int)]) ⟨by dsimp only;omega,by dsimp only;omega,?_,by dsimp only;rw [List.length_append];simp;omega⟩ (by dsimp only;omega) ?_ ⟨rfl,rfl,rfl,rfl,rfl,congrArg (fun z=>some (AV.int .i64 z)) (by dsimp only;omega),?_,rfl,rfl,trivial⟩
    ·dsimp only
     rw [<- hpl,hps r (by omega) hr1 hno,show b.months.length - (m + 1) = k by omega,List.append_assoc];rfl
    ·show [Blk.map [],Blk.cells (bedC b ++ [.mp 0]),Blk.grow 338 false (rows.map arrA),Blk.grow 3 (out ++ [(r : Int)]).isEmpty (List.map (AV.int .i64) (out ++ [(r : Int)]))] = _
     rw [zO,List.map_append]
     rfl
    ·show some (AV.gr 3 (out.length + 1)) = some (AV.gr 3 (out ++ [(r : Int)]).length)
     rw [List.length_append];rfl
   ·rename_i h1 h2
    have h3 : (r : Int) + (rows.getD ((m : Int) + 1).toNat default).getD (li - r) default ≠ (rows.getD m default).getD a default:=h
    rw [hnx (by omega)] at h2 h3
    have hr1 : kz (valM b share k) li (valM b share (k + 1) a) r = false:=by rw [hrk,<- hva,beq_eq_false_iff_ne.2 h3,Bool.and_false]
    refine zu.go (r + 1) ⟨by omega,fun q hq=>?_⟩ (by omega) rfl ⟨rfl,rfl,rfl,rfl,rfl,rfl,rfl,rfl,rfl,rfl,rfl,rfl,rfl,trivial⟩
    by_cases hqr : q = r
    ·rw [hqr];exact hr1
    ·exact hno q (by omega)
   ·rw [hnx (by omega)] at h
    have hr1 : kz (valM b share k) li (valM b share (k + 1) a) r = false:=by rw [hrk,h];rfl
    refine zu.go (r + 1) ⟨by omega,fun q hq=>?_⟩ (by omega) rfl ⟨rfl,rfl,rfl,rfl,rfl,rfl,rfl,rfl,rfl,rfl,rfl,rfl,rfl,trivial⟩
    by_cases hqr : q = r
    ·rw [hqr];exact hr1
    ·exact hno q (by omega)
   ·refine zu.go (m + 1,a,out) ⟨by dsimp only;omega,ham,?_,by dsimp only;omega⟩ (by dsimp only;omega) rfl ⟨rfl,rfl,rfl,rfl,rfl,rfl,rfl,rfl,rfl,trivial⟩
    dsimp only
    rw [<- hpl,hpn fun q hq=>hno q (by omega),show b.months.length - (m + 1) = k by omega]
  ·obtain rfl : m = b.months.length:=by omega
   rw [Nat.sub_self] at hpl
   have : yk b share b.months.length a0 = out:=by rw [<- hpl];exact List.append_nil out
   rw [this]
   exact ⟨Froz.tup (.cons (Froz.grow (i:=3) rfl (List.length_map _) (lowI _)) (.cons (Froz.low rfl) .nil))⟩
theorem lies_c (b : Bd) (m : Mo) (a sp st : Int) (h1 : 0 <= a) (h2 : a <= 1000) (h3 : 0 <= m.g) (h4 : m.g <= 100) (h5 : 0 <= b.room) (h6 : b.room <= 1000) (h7 : 0 <= sp) (h8 : sp <= 1000) (h9 : 0 <= st) (h10 : st <= 1000) :
  Comp Tryz.prog 213 [bedA b,moA m,.int .i64 a,chA sp st] (.int .i64 (kQ b.room m.g a sp st)):=by
 have q1 : 0 <= a * m.g:=Int.mul_nonneg h1 h3
 have q2 : a * m.g <= 1000 * 100:=Int.mul_le_mul h2 h4 h3 (by omega)
 have q3 : (a * m.g).tdiv 100 = (a * m.g) / 100:=Int.tdiv_eq_ediv_of_nonneg q1
 refine Comp.body (T:=tab) (res:=[.tmp 8]) za [] Tryz.func213 rfl (by kernel_rfl) Tryz.ntmps213 rfl (by simp only [List.length_cons,List.length_nil];decide) (by simp only [lowL,bedL,moL,AV.low];rfl) ?_;conv=>whnf
 repeat' first|((with_reducible refine XInt.a ?_);conv=>whnf)|((with_reducible refine zj.mk ?_ ?_);(first | omega | rfl | decide|exact ⟨rfl,by decide,rfl⟩|exact yx _|exact z5 _|exact z4 _|(unfold Room;constructor <;> ((try simp) <;> omega))|exact ⟨rfl,by simp only [List.length_map],by unfold Room;constructor <;> ((try simp) <;> omega)⟩|exact ⟨by omega,by omega,by unfold Room;constructor <;> ((try simp) <;> omega)⟩);conv=>whnf)|fail
 all_goals exact XOut.int (by rw [q3];rfl)
structure MdB where
 ms : List Mo
 now : Int
 re : List Int
 ch : List (Int × Int)
 u : Hp
def mdMo (u : Hp) : Mo:=⟨modV u 60,0,modV (hpS u) 6,modV (hpS u) 6 + modV (hpS (hpS (hpS u))) 8,modV (hpS (hpS u)) 4,modV (hpS (hpS u)) 4 + modV (hpS (hpS (hpS (hpS u)))) 8⟩
def mdU (u : Hp) : Hp:=hpS (hpS (hpS (hpS (hpS u))))
def mdSp (u : Hp) : Int:=(mdMo u).pl + modV (mdU u) ((mdMo u).ph - (mdMo u).pl)
def mdSt (u : Hp) : Int:=(mdMo u).tl + modV (hpS (mdU u)) ((mdMo u).th - (mdMo u).tl)
def mdN (room : Int) (s : MdB) : Int:=kQ room (mdMo s.u).g s.now (mdSp s.u) (mdSt s.u)
def mdR (room : Int) (s : MdB) : Int:=modV (hpS (hpS (mdU s.u))) (min (mdN room s) 5)
def mdBS (room : Int) (s : MdB) : MdB:=⟨s.ms ++ [{ mdMo s.u with r:=mdR room s }],mdN room s - mdR room s,s.re ++ [mdN room s - mdR room s],s.ch ++ [(mdSp s.u,mdSt s.u)],hpS (hpS (hpS (mdU s.u)))⟩
structure MdOk (room : Int) (s : MdB) (k : Nat) : Prop where
 u : s.u.Ok
 n0 : 0 <= s.now
 n1 : s.now <= room
 ml : s.ms.length = k
 rl : s.re.length = k + 1
 cl : s.ch.length = k
 mo : ∀ m ∈ s.ms,0 <= m.g /\ m.g <= 60 /\ 0 <= m.r /\ m.r <= 5 /\ m.r <= room /\ 0 <= m.pl /\ m.pl <= m.ph /\ m.ph <= 14 /\ 0 <= m.tl /\ m.tl <= m.th /\ m.th <= 12
theorem mdMo_b (u : Hp) : 0 <= (mdMo u).g /\ (mdMo u).g <= 60 /\ 0 <= (mdMo u).pl /\ (mdMo u).pl <= 6 /\ (mdMo u).pl <= (mdMo u).ph /\ (mdMo u).ph <= 14 /\ 0 <= (mdMo u).tl /\ (mdMo u).tl <= 4 /\ (mdMo u).tl <= (mdMo u).th /\ (mdMo u).th <= 12:=by
 have h1:=zp u 60
 have h2:=zp (hpS u) 6
 have h3:=zp (hpS (hpS u)) 4
 have h4:=zp (hpS (hpS (hpS u))) 8
 have h5:=zp (hpS (hpS (hpS (hpS u)))) 8
 simp only [mdMo];omega
theorem mdC_b (u : Hp) : (mdMo u).pl <= mdSp u /\ mdSp u <= (mdMo u).ph /\ (mdMo u).tl <= mdSt u /\ mdSt u <= (mdMo u).th:=by
 have h0:=mdMo_b u
 have h1:=zp (mdU u) ((mdMo u).ph - (mdMo u).pl)
 have h2:=zp (hpS (mdU u)) ((mdMo u).th - (mdMo u).tl)
 unfold mdSp mdSt;omega
theorem mdU_ok {u : Hp} (o : u.Ok) : (mdU u).Ok:=zD (zD (zD (zD (zD o))))
theorem mdN_b {room : Int} {s : MdB} {k : Nat} (o : MdOk room s k) : 0 <= mdN room s /\ mdN room s <= room:=by
 have:=mdC_b s.u;have:=mdMo_b s.u;have:=o.n0;have:=o.n1
 exact gW (by omega) (by omega)
theorem mdR_b {room : Int} {s : MdB} {k : Nat} (o : MdOk room s k) : 0 <= mdR room s /\ mdR room s <= mdN room s /\ mdR room s <= 5:=by
 have h:=mdN_b o
 have:=zp (hpS (hpS (mdU s.u))) (min (mdN room s) 5)
 unfold mdR;omega
theorem MdOk.step {room : Int} {s : MdB} {k : Nat} (o : MdOk room s k) : MdOk room (mdBS room s) (k + 1):=by
 have h1:=mdN_b o
 have h2:=mdR_b o
 have h3:=mdMo_b s.u
 have hu : (hpS (hpS (hpS (mdU s.u)))).Ok:=zD (zD (zD (mdU_ok o.u)))
 unfold mdBS
 refine MdOk.mk ?_ ?_ ?_ ?_ ?_ ?_ ?_
 all_goals dsimp only
 ·exact hu
 ·exact Int.sub_nonneg_of_le h2.2.1
 ·exact Int.le_trans (Int.sub_le_self _ h2.1) h1.2
 ·rw [List.length_append,o.ml];rfl
 ·rw [List.length_append,o.rl];rfl
 ·rw [List.length_append,o.cl];rfl
 intro m hm
 rw [List.mem_append,List.mem_singleton] at hm
 rcases hm with hm | rfl
 ·exact o.mo m hm
 ·obtain ⟨a1,a2,a3,a4,a5,a6,a7,a8,a9,a10⟩:=h3
  exact ⟨a1,a2,h2.1,h2.2.2,Int.le_trans h2.2.1 h1.2,a3,a5,a6,a7,a9,a10⟩
def mdBK (room : Int) (s : MdB) : Nat -> MdB
 | 0=>s
 | k + 1=>mdBS room (mdBK room s k)
theorem mdBK_succ (room : Int) (s : MdB) (k : Nat) : mdBK room s (k + 1) = mdBS room (mdBK room s k):=by rw [mdBK]
theorem qj {room : Int} {s : MdB} (o : MdOk room s 0) : ∀ k,MdOk room (mdBK room s k) k
 | 0=>o
 | k + 1=>(qj o k).step
def zy (u : Hp) (room : Int) : Int:=2 + modV u (room - 2)
def yu (u : Hp) : Int:=modV (hpS u) 4
def kK (u : Hp) (room : Int) : Int:=modV (hpS (hpS u)) (zy u room)
def mdNow (u : Hp) (room : Int) : Int:=min (zy u room) (max 0 (kK u room + ((0 - yu u) + modV (hpS (hpS (hpS u))) (yu u - (0 - yu u)))))
def mdH (u : Hp) : Hp:=hpS (hpS (hpS (hpS u)))
def yo (u : Hp) (months : Int) : Int:=1 + modV (mdH u) (months - 1)
def mdS0 (u : Hp) (room : Int) : MdB:=⟨[],mdNow u room,[mdNow u room],[],hpS (mdH u)⟩
theorem fN {u : Hp} (o : u.Ok) {room : Int} (h : 2 <= room) : MdOk (zy u room) (mdS0 u room) 0:=by
 have h1:=zp u (room - 2)
 refine ⟨zD (zD (zD (zD (zD o)))),?_,?_,rfl,rfl,rfl,by simp [mdS0]⟩
 ·simp only [mdS0,mdNow,zy];omega
 ·simp only [mdS0,mdNow];omega
def mdE (u : Hp) (room months : Int) : MdB:=mdBK (zy u room) (mdS0 u room) (yo u months).toNat
def yJ (u : Hp) (room months : Int) : Bd:=⟨zy u room,kK u room,yu u,(mdE u room months).ms.isEmpty,(mdE u room months).ms,true,[]⟩
theorem madeB_ok {u : Hp} (o : u.Ok) {room months : Int} (h1 : 2 <= room) (h2 : room <= 100) (h3 : 1 <= months) (h4 : months <= 10) : BedOk (yJ u room months):=by
 have e:=qj (fN o h1) (yo u months).toNat
 have g1:=zp u (room - 2)
 have g2:=zp (hpS u) 4
 have g3:=zp (hpS (hpS u)) (zy u room)
 have g4:=zp (mdH u) (months - 1)
 have hl:=e.ml
 refine ⟨?_,?_,?_,?_,?_,?_,?_,?_,fun m hm=>?_⟩
 ·simp only [yJ,zy];omega
 ·simp only [yJ,zy];omega
 ·simp only [yJ,mdE];rw [hl];simp only [yo];omega
 ·simp only [yJ,mdE];rw [hl];simp only [yo];omega
 ·simp only [yJ,kK];omega
 ·simp only [yJ,kK,zy] at g3 ⊢;omega
 ·simp only [yJ,yu];omega
 ·simp only [yJ,yu];omega
 ·have:=e.mo m hm
  simp only [yJ];omega
theorem za3 {H : List Blk} {r' : AV} (b : Bd) (re : List Int) (ch : List (Int × Int)) (nl : Bool) (x : Hp) {i1 i2 i3 : Nat} {n : Nat} (hn : n = 1) (h1 : 1 <= i1) (h2 : 1 <= i2) (h3 : 1 <= i3) (hH : lget H 0 = some (hpC x)) (g1 : lget H i1 = some (.grow 330 b.nlm (b.months.map moA))) (g2 : lget H i2 = some (.grow 3 nl (ints re))) (g3 : lget H i3 = some (.grow 332 ch.isEmpty (ch.map prA)))
  (hs : b.surveys = []) (hs2 : b.nls = true) (hr : r' = .tup [.agg [.int .i64 b.room,.int .i64 b.first,.int .i64 b.unsure,.gr i1 b.months.length,.sl true []],.gr i2 re.length,.gr i3 ch.length]) : yD Tryz.prog n H r' (.tup [bedA b,.sl nl (ints re),.sl ch.isEmpty (ch.map prA)]):=by
 subst hn hr
 have e : bedA b = .agg [.int .i64 b.room,.int .i64 b.first,.int .i64 b.unsure,.sl b.nlm (b.months.map moA),.sl true []]:=by unfold bedA bedC;rw [hs,hs2];rfl
 rw [e]
 refine yD.tup (.cons (yD.agg ?_ (.cons (.low rfl) (.cons (.low rfl) (.cons (.low rfl) (.cons (.grow h1 g1 (List.length_map _) (kJ _)) (.cons (.low rfl) .nil)))))) (.cons (.grow h2 g2 (List.length_map _) (lowI _)) (.cons (.grow h3 g3 (List.length_map _) (vP _)) .nil)))
 ·intro y hy
  simp only [List.mem_cons,List.not_mem_nil,or_false] at hy
  rcases hy with rfl | rfl | rfl | rfl | rfl <;> rfl
theorem zf.heap {P : Program} {f : FuncId} {rs : List AV} {k : AV -> List Blk -> Prop} {H : List Blk} (H' : List Blk) (h : H' = H) (x : zf P f rs H' k) : zf P f rs H k:=h ▸ x
theorem Walk.heap {P : Program} {N : Nat} {r : Option Nat} {c : Code} {Q : Post} {D : List Nat} {σ : St} {H : List Blk} (H' : List Blk) (h : H' = H) (x : Walk P N r c Q D σ H') : Walk P N r c Q D σ H:=h ▸ x
set_option maxHeartbeats 4000000 in
theorem bedMade_c (u : Hp) (room months : Int) (o : u.Ok) (h1 : 2 <= room) (h2 : room <= 100) (h3 : 1 <= months) (h4 : months <= 10) :
  HpOk 44 [.int .i64 room,.int .i64 months] u (.tup [bedA (yJ u room months),.sl false (ints (mdE u room months).re),.sl (mdE u room months).ch.isEmpty ((mdE u room months).ch.map prA)]) (mdE u room months).u:=by
 have g1:=zp u (room - 2)
 have g2:=zp (hpS u) 4
 have g4:=zp (mdH u) (months - 1)
 have ok:=qj (fN o h1)
 have hR : zy u room = 2 + modV u (room - 2):=rfl
 refine ⟨rfl,?_⟩
 refine zE.bodyN (T:=tab) (res:=[.cell 6 121,.tmp 7,.tmp 8]) za [41] Tryz.func44 rfl (by kernel_rfl) Tryz.ntmps44 rfl (by simp only [List.length_cons,List.length_nil];decide) ⟨rfl,rfl⟩ ?_;conv=>whnf
 repeat' ((first|refine zf.hp (j:=0) (gC u 2 room o (by omega) (by omega) (by omega) (by omega)) rfl rfl ?_|refine zf.hp (j:=0) (jm (hpS u) 4 (zD o) (by omega) (by omega)) rfl rfl ?_|refine zf.hp (j:=0) (jm (hpS (hpS u)) _ (zD (zD o)) (by omega) (by omega)) rfl rfl ?_);conv=>whnf)
 have g3:=zp (hpS (hpS u)) (zy u room)
 have g5:=zp (hpS (hpS (hpS u))) (yu u - (0 - yu u))
 have hU : yu u = modV (hpS u) 4:=rfl
 have hF : kK u room = modV (hpS (hpS u)) (zy u room):=rfl
 have hfr:=gC (hpS (hpS (hpS u))) ((0 - yu u)) (yu u) (zD (zD (zD o))) (by omega) (by omega) (by omega) (by omega)
 refine Walk.know [(0,.ptr 0 0),(2,.int .i64 months),(6,.ptr 1 0),(7,.sl true []),(8,.sl true []),(9,.ptr 2 0)] ⟨rfl,rfl,rfl,rfl,rfl,rfl,trivial⟩ ?_
 refine Walk.heap [hpC (hpS (hpS (hpS u))),.cells [.int .i64 0,.int .i64 0,.int .i64 0,.sl true [],.sl true []],.cells [.int .i64 (zy u room),.int .i64 (kK u room),.int .i64 (yu u),.sl true [],.sl true []]] rfl ?_
 rw [<- hU] at g2
 rw [<- hF] at g3
 apply Walk.drawX za zi [] [10] (hsV _ [id,fun H=>H.set 0 (hpC (mdH u))]) [_,_,_,_,_,_,_,_,_,_,_,_,_,_,_] (by kernel_rfl) rfl
 ·skip
  repeat' first|((with_reducible first|refine XInt.a ?_|apply Chk.go|apply ChkA.go);conv=>whnf)|(with_reducible first|apply XAnd.mk|exact trivial)|(exact zm.mk rfl rfl)|((refine zf.hp (j:=0) hfr rfl rfl ?_);conv=>whnf)|fail
 ·skip
  repeat' first|((with_reducible first|apply Chk.go|apply ChkF.go|apply ChkB.go);conv=>whnf)|(with_reducible first|apply XAnd.mk|exact trivial)|(exact zm.mk rfl rfl)|fail
 conv=>whnf
 have hm1 : yo u months = 1 + modV (mdH u) (months - 1):=rfl
 have hMo : (mdH u).Ok:=zD (zD (zD (zD o)))
 repeat' first|((with_reducible refine zj.mk ?_ ?_);(first | omega | rfl | decide|exact ⟨rfl,by decide,rfl⟩|exact yx _|exact z5 _|exact z4 _|(unfold Room;constructor <;> ((try simp) <;> omega))|exact ⟨rfl,by simp only [List.length_map],by unfold Room;constructor <;> ((try simp) <;> omega)⟩|exact ⟨by omega,by omega,by unfold Room;constructor <;> ((try simp) <;> omega)⟩);conv=>whnf)|((refine zf.hp (j:=0) (gC (mdH u) 1 months hMo (by omega) (by omega) (by omega) (by omega)) rfl rfl ?_);conv=>whnf)|fail
 refine Walk.nilcell 2 3 330 rfl rfl ?_
 refine Walk.nilgr 12 332 rfl ?_
 refine Walk.loopG za [] (fun k : Nat=>(k : Int) <= yo u months) (fun k=>[(0,.ptr 0 0),(6,.ptr 1 0),(7,.sl true []),(8,.sl true []),(9,.ptr 2 0),(44,.int .i64 (yo u months)),(10,.int .i64 (mdBK (zy u room) (mdS0 u room) k).now),(11,.gr 3 (mdBK (zy u room) (mdS0 u room) k).re.length),(12,.gr 5 (mdBK (zy u room) (mdS0 u room) k).ch.length),(45,natA k)])
  (fun k=>[hpC (mdBK (zy u room) (mdS0 u room) k).u,.cells [.int .i64 0,.int .i64 0,.int .i64 0,.sl true [],.sl true []],.cells [.int .i64 (zy u room),.int .i64 (kK u room),.int .i64 (yu u),.gr 4 (mdBK (zy u room) (mdS0 u room) k).ms.length,.sl true []],
   .grow 3 false (ints (mdBK (zy u room) (mdS0 u room) k).re),.grow 330 (mdBK (zy u room) (mdS0 u room) k).ms.isEmpty ((mdBK (zy u room) (mdS0 u room) k).ms.map moA),.grow 332 (mdBK (zy u room) (mdS0 u room) k).ch.isEmpty ((mdBK (zy u room) (mdS0 u room) k).ch.map prA)])
  (fun k=>(yo u months).toNat - k) 0 (show ((0 : Nat) : Int) <= yo u months by omega) rfl ⟨rfl,rfl,rfl,rfl,rfl,rfl,rfl,rfl,rfl,rfl,trivial⟩ ?_ ?_ ?_
 ·intro k _
  refine ⟨fun x hx=>?_,fun p hp=>?_⟩
  ·simp only [List.mem_cons,List.not_mem_nil,or_false] at hx
   rcases hx with rfl | rfl | rfl | rfl | rfl | rfl
   ·exact jk _
   ·rfl
   ·rfl
   ·exact lowI _
   ·exact kJ _
   ·exact vP _
  ·simp only [List.mem_cons,List.not_mem_nil,or_false] at hp
   rcases hp with rfl | rfl | rfl | rfl | rfl | rfl | rfl | rfl | rfl | rfl <;> rfl
 ·intro k _;exact (show (6 : Nat) <= 6 from Nat.le_refl 6)
 intro k hk
 have hs:=ok k
 have hnx : mdBK (zy u room) (mdS0 u room) (k + 1) = mdBS (zy u room) (mdBK (zy u room) (mdS0 u room) k):=mdBK_succ _ _ _
 have hfin : (k : Int) = yo u months -> mdE u room months = mdBK (zy u room) (mdS0 u room) k:=fun h=>by unfold mdE;rw [<- h,Int.toNat_natCast]
 generalize mdBK (zy u room) (mdS0 u room) k = s at hs hnx hfin
 have ht:=mdN_b hs
 have ht2:=mdR_b hs
 obtain ⟨ms,now,re,ch,v⟩:=s
 have vo:=hs.u
 have n0:=hs.n0
 have n1:=hs.n1
 have l1:=hs.ml
 have l2:=hs.rl
 have l3:=hs.cl
 clear hs ok
 dsimp only at vo n0 n1 l1 l2 l3
 simp only [mdBS,mdMo,mdSp,mdSt,mdN,mdR,mdU] at hnx ht ht2
 generalize hRR : zy u room = R at *
 have o1:=zD vo
 have o2:=zD o1
 have o3:=zD o2
 have o4:=zD o3
 have o5:=zD o4
 have o6:=zD o5
 have o7:=zD o6
 have b1:=zp v 60
 have b2:=zp (hpS v) 6
 have b3:=zp (hpS (hpS v)) 4
 have b4:=zp (hpS (hpS (hpS v))) 8
 have b5:=zp (hpS (hpS (hpS (hpS v)))) 8
 have c1:=jm v 60 vo (by omega) (by omega)
 have c2:=jm (hpS v) 6 o1 (by omega) (by omega)
 have c3:=jm (hpS (hpS v)) 4 o2 (by omega) (by omega)
 have c4:=jm (hpS (hpS (hpS v))) 8 o3 (by omega) (by omega)
 have c5:=jm (hpS (hpS (hpS (hpS v)))) 8 o4 (by omega) (by omega)
 generalize modV v 60 = g at *
 generalize modV (hpS v) 6 = pl at *
 generalize modV (hpS (hpS v)) 4 = tl at *
 generalize modV (hpS (hpS (hpS v))) 8 = d1 at *
 generalize modV (hpS (hpS (hpS (hpS v)))) 8 = d2 at *
 have b6:=zp (hpS (hpS (hpS (hpS (hpS v))))) (pl + d1 - pl)
 have b7:=zp (hpS (hpS (hpS (hpS (hpS (hpS v)))))) (tl + d2 - tl)
 have c6:=gC (hpS (hpS (hpS (hpS (hpS v))))) pl (pl + d1) o5 (by omega) (by omega) (by omega) (by omega)
 have c7:=gC (hpS (hpS (hpS (hpS (hpS (hpS v)))))) tl (tl + d2) o6 (by omega) (by omega) (by omega) (by omega)
 generalize modV (hpS (hpS (hpS (hpS (hpS v))))) (pl + d1 - pl) = e1 at *
 generalize modV (hpS (hpS (hpS (hpS (hpS (hpS v)))))) (tl + d2 - tl) = e2 at *
 have c9:=lies_c ⟨R,kK u room,yu u,ms.isEmpty,ms,true,[]⟩ ⟨g,0,pl,pl + d1,tl,tl + d2⟩ now (pl + e1) (tl + e2) n0 (by omega) (by dsimp only;omega) (by dsimp only;omega) (by dsimp only;omega) (by dsimp only;omega) (by omega) (by omega) (by omega) (by omega)
 dsimp only at c9
 generalize kQ R g now (pl + e1) (tl + e2) = nn at *
 have c8:=jm (hpS (hpS (hpS (hpS (hpS (hpS (hpS v))))))) (min nn 5) o7 (by omega) (by omega)
 generalize modV (hpS (hpS (hpS (hpS (hpS (hpS (hpS v))))))) (min nn 5) = rk at *
 generalize hpS (hpS (hpS (hpS (hpS (hpS (hpS (hpS v))))))) = v8 at *
 generalize hpS (hpS (hpS (hpS (hpS (hpS (hpS v)))))) = v7 at *
 generalize hpS (hpS (hpS (hpS (hpS (hpS v))))) = v6 at *
 generalize hpS (hpS (hpS (hpS (hpS v)))) = v5 at *
 generalize hpS (hpS (hpS (hpS v))) = v4 at *
 generalize hpS (hpS (hpS v)) = v3 at *
 generalize hpS (hpS v) = v2 at *
 generalize hpS v = v1 at *
 conv=>whnf
 repeat' first|((with_reducible apply XBr.dec) <;> (intro h;first|(exfalso;omega)|((try simp only [List.length_map] at h);first|(exfalso;omega)|(conv=>whnf))))|((first|refine zf.hp (j:=0) c1 rfl rfl ?_|refine zf.hp (j:=0) c2 rfl rfl ?_|refine zf.hp (j:=0) c3 rfl rfl ?_);conv=>whnf)|fail
 ·apply Walk.drawX za zi [] [4,10,14,17] (hsV _ [id,fun H=>H.set 0 (hpC v4),fun H=>H.set 0 (hpC v5),fun H=>(H.set 0 (hpC v5)).set 6 (.cells [.int .i64 g,.int .i64 0,.int .i64 pl,.int .i64 (pl + d1),.int .i64 tl,.int .i64 0]),fun H=>(H.set 0 (hpC v5)).set 6 (.cells [.int .i64 g,.int .i64 0,.int .i64 pl,.int .i64 (pl + d1),.int .i64 tl,.int .i64 (tl + d2)])]) [_,_,_,_,_,_,_,_,_,_,_,_,_,_,_,_,_,_] (by kernel_rfl) rfl
  ·skip
   repeat' first|((with_reducible first|refine XInt.a ?_|apply Chk.go|apply ChkA.go);conv=>whnf)|(with_reducible first|apply XAnd.mk|exact trivial)|(exact zm.mk rfl rfl)|((first|refine zf.hp (j:=0) c4 rfl rfl ?_|refine zf.hp (j:=0) c5 rfl rfl ?_);conv=>whnf)|fail
  ·skip
   repeat' first|((with_reducible first|refine XInt.a ?_|apply Chk.go|apply ChkF.go|apply ChkB.go);conv=>whnf)|(with_reducible first|apply XAnd.mk|exact trivial)|(exact zm.mk rfl rfl)|fail
  conv=>whnf
  apply Walk.drawX za zi [] [7,15,17,18] (fun fl=>match fl with
   | [a,b,x,y]=>[hpC (bif b then v7 else bif a then v6 else v5),.cells [.int .i64 0,.int .i64 0,.int .i64 0,.sl true [],.sl true []],.cells [.int .i64 R,.int .i64 (kK u room),.int .i64 (yu u),.gr 4 ms.length,.sl true []],
     .grow 3 false (ints re),.grow 330 ms.isEmpty (ms.map moA),.grow 332 ch.isEmpty (ch.map prA),.cells [.int .i64 g,.int .i64 0,.int .i64 pl,.int .i64 (pl + d1),.int .i64 tl,.int .i64 (tl + d2)]] ++ (bif x then [.cells (bif y then [.int .i64 (pl + e1),.int .i64 (tl + e2)] else [.int .i64 0,.int .i64 0])] else [])
   | _=>[]) [_,_,_,_,_,_,_,_,_,_,_,_,_,_,_,_,_,_,_] (by kernel_rfl) rfl
  ·skip
   repeat' first|((with_reducible first|apply Chk.go|apply ChkA.go);conv=>whnf)|(with_reducible first|apply XAnd.mk|exact trivial)|(exact zm.mk rfl rfl)|((first|refine zf.hp (j:=0) c6 rfl rfl ?_|refine zf.hp (j:=0) c7 rfl rfl ?_);conv=>whnf)|fail
  ·skip
   repeat' first|((with_reducible first|apply Chk.go|apply ChkF.go|apply ChkB.go);conv=>whnf)|(with_reducible first|apply XAnd.mk|exact trivial)|(exact zm.mk rfl rfl)|((first|refine zf.hp (j:=0) c6 rfl rfl ?_|refine zf.hp (j:=0) c7 rfl rfl ?_);conv=>whnf)|fail
  conv=>whnf
  refine zf.heap [hpC v7,.cells [.int .i64 0,.int .i64 0,.int .i64 0,.sl true [],.sl true []],.cells [.int .i64 R,.int .i64 (kK u room),.int .i64 (yu u),.gr 4 ms.length,.sl true []],
    .grow 3 false (ints re),.grow 330 ms.isEmpty (ms.map moA),.grow 332 ch.isEmpty (ch.map prA),.cells [.int .i64 g,.int .i64 0,.int .i64 pl,.int .i64 (pl + d1),.int .i64 tl,.int .i64 (tl + d2)],.cells [.int .i64 (pl + e1),.int .i64 (tl + e2)]] rfl ?_
  refine zf.lend c9 (.cons (Froz.agg (fun x hx=>by simp only [bedC,List.mem_cons,List.not_mem_nil,or_false] at hx;rcases hx with rfl | rfl | rfl | rfl | rfl <;> rfl) (.cons (Froz.low rfl) (.cons (Froz.low rfl) (.cons (Froz.low rfl) (.cons (Froz.grow (i:=4) rfl (List.length_map _) (kJ _)) (.cons (Froz.low rfl) .nil)))))) (.cons (Froz.low rfl) (.cons (Froz.low rfl) (.cons (Froz.low rfl) .nil)))) rfl ?_
  conv=>whnf
  repeat' first|((first|(with_reducible refine XInt.a ?_)|(refine zf.hp (j:=0) c8 rfl rfl ?_));conv=>whnf)|fail
  apply Walk.drawX za zi [] [4,8,12,14] (hsV _ [id,fun H=>H.set 4 (.grow 330 (ms.isEmpty && false) (ms.map moA ++ [moA ⟨g,rk,pl,pl + d1,tl,tl + d2⟩])),
   fun H=>(H.set 4 (.grow 330 (ms.isEmpty && false) (ms.map moA ++ [moA ⟨g,rk,pl,pl + d1,tl,tl + d2⟩]))).set 3 (.grow 3 false (ints re ++ [.int .i64 (nn - rk)])),
   fun H=>((H.set 4 (.grow 330 (ms.isEmpty && false) (ms.map moA ++ [moA ⟨g,rk,pl,pl + d1,tl,tl + d2⟩]))).set 3 (.grow 3 false (ints re ++ [.int .i64 (nn - rk)]))).set 5 (.grow 332 (ch.isEmpty && false) (ch.map prA ++ [prA (pl + e1,tl + e2)])),
   fun H=>(((H.set 4 (.grow 330 (ms.isEmpty && false) (ms.map moA ++ [moA ⟨g,rk,pl,pl + d1,tl,tl + d2⟩]))).set 3 (.grow 3 false (ints re ++ [.int .i64 (nn - rk)]))).set 5 (.grow 332 (ch.isEmpty && false) (ch.map prA ++ [prA (pl + e1,tl + e2)]))).set 2 (.cells [.int .i64 R,.int .i64 (kK u room),.int .i64 (yu u),.gr 4 (ms.length + 1),.sl true []])]) [_,_,_,_,_,_,_,_,_,_,_,_,_,_,_,_,_] (by kernel_rfl) rfl
  ·skip
   repeat' first|((with_reducible first|apply Chk.go|apply ChkA.go);conv=>whnf)|(with_reducible first|apply XAnd.mk|exact trivial)|((with_reducible refine zj.mk ?_ ?_);(first | omega | rfl | decide|exact ⟨rfl,by decide,rfl⟩|exact yx _|exact z5 _|exact z4 _|(unfold Room;constructor <;> ((try simp) <;> omega))|exact ⟨rfl,by simp only [List.length_map],by unfold Room;constructor <;> ((try simp) <;> omega)⟩|exact ⟨by omega,by omega,by unfold Room;constructor <;> ((try simp) <;> omega)⟩);conv=>whnf)|(exact zm.mk rfl rfl)|fail
  ·skip
   repeat' first|((with_reducible first|apply Chk.go|apply ChkF.go|apply ChkB.go);conv=>whnf)|(with_reducible first|apply XAnd.mk|exact trivial)|((with_reducible refine zj.mk ?_ ?_);(first | omega | rfl | decide|exact ⟨rfl,by decide,rfl⟩|exact yx _|exact z5 _|exact z4 _|(unfold Room;constructor <;> ((try simp) <;> omega))|exact ⟨rfl,by simp only [List.length_map],by unfold Room;constructor <;> ((try simp) <;> omega)⟩|exact ⟨by omega,by omega,by unfold Room;constructor <;> ((try simp) <;> omega)⟩);conv=>whnf)|(exact zm.mk rfl rfl)|fail
  conv=>whnf
  repeat' ((with_reducible refine XInt.a ?_);conv=>whnf)
  refine zq.go (k + 1) [.cells [.int .i64 g,.int .i64 rk,.int .i64 pl,.int .i64 (pl + d1),.int .i64 tl,.int .i64 (tl + d2)],.cells [.int .i64 (pl + e1),.int .i64 (tl + e2)]] (show ((k + 1 : Nat) : Int) <= yo u months by omega) (show (yo u months).toNat - (k + 1) < (yo u months).toNat - k by omega) ?_ ⟨rfl,rfl,rfl,rfl,rfl,rfl,?_,?_,?_,rfl,trivial⟩
  ·rw [hnx]
   show [hpC v8,.cells [.int .i64 0,.int .i64 0,.int .i64 0,.sl true [],.sl true []],.cells [.int .i64 R,.int .i64 (kK u room),.int .i64 (yu u),.gr 4 (ms ++ [(⟨g,rk,pl,pl + d1,tl,tl + d2⟩ : Mo)]).length,.sl true []],.grow 3 false (List.map (AV.int .i64) (re ++ [nn - rk])),.grow 330 (ms ++ [(⟨g,rk,pl,pl + d1,tl,tl + d2⟩ : Mo)]).isEmpty (List.map moA (ms ++ [⟨g,rk,pl,pl + d1,tl,tl + d2⟩])),.grow 332 (ch ++ [(pl + e1,tl + e2)]).isEmpty (List.map prA (ch ++ [(pl + e1,tl + e2)]))] ++ _ = _
   rw [List.map_append,List.map_append,List.map_append,zO,zO,List.length_append]
   rfl
  ·show some (AV.int .i64 (nn - rk)) = some (AV.int .i64 (mdBK R (mdS0 u room) (k + 1)).now)
   rw [hnx]
  ·show some (AV.gr 3 (re.length + 1)) = some (AV.gr 3 (mdBK R (mdS0 u room) (k + 1)).re.length)
   rw [hnx];dsimp only;rw [List.length_append];rfl
  ·show some (AV.gr 5 (ch.length + 1)) = some (AV.gr 5 (mdBK R (mdS0 u room) (k + 1)).ch.length)
   rw [hnx];dsimp only;rw [List.length_append];rfl
 ·have hf:=hfin (by omega)
  have hB : yJ u room months = ⟨R,kK u room,yu u,ms.isEmpty,ms,true,[]⟩:=by unfold yJ;rw [hf,hRR]
  rw [hB,hf]
  exact ⟨rfl,rfl,fun y hy=>by simp only [List.mem_cons,List.not_mem_nil,or_false] at hy;subst hy;exact jk _,
   za3 (i1:=4) (i2:=3) (i3:=5) ⟨R,kK u room,yu u,ms.isEmpty,ms,true,[]⟩ re ch false v rfl (by decide) (by decide) (by decide) rfl rfl rfl rfl rfl rfl rfl⟩
end GA
end
section
namespace GA
open Go Go.RowKit Go.ChangeShapes Go.WideShapes Go.ChangeAt Go.Proofs Go.Proofs.YtdeocemmlagnhaaGreat
section
variable {P : Program} {w : World} {r : Reach} {base : Nat} {t : TypeId} {v : Value}
theorem zbv {e : TypeId} (ht : P.underlying t = some (.slice e)) (h : Value.okWide P w r base t v) : ∃ a len cap,v = .slice a len cap /\ len < 9223372036854775808:=by
 simp only [Value.okWide,ht,Cell.okWide] at h
 cases v with
 | slice a len cap =>
   refine ⟨a,len,cap,rfl,?_⟩
   cases a with
   | none =>
     cases len with
     | zero=>omega
     | succ n=>simp [Cell.ok,ht] at h
   | some a =>
     simp only [Cell.ok,ht] at h
     have h1 : IntKind.i64.max = 9223372036854775807:=by decide
     omega
 | _=>simp_all [Cell.ok]
theorem wy {k : IntKind} (ht : P.underlying t = some (.int k)) (h : Value.okWide P w r base t v) : ∃ n,v = .int k n /\ k.min <= n /\ n <= k.max:=by
 obtain ⟨n,rfl⟩:=okWide_int ht h
 refine ⟨n,rfl,?_⟩
 simp only [Value.okWide,ht,Cell.okWide] at h
 simp only [Cell.ok,ht,IntKind.has] at h
 exact h.2
end
theorem rep_len {P : Program} {h : Nat -> Option Obj} {β : Nat -> Value} {H : List Blk} {nl : Bool} {els : List AV} {a : Option Addr} {len cap : Nat} (x : Rep P h β H (.sl nl els) (.slice a len cap)) : els.length = len:=by
 cases x with
 | slnil=>rfl
 | slemp=>rfl
 | sl us h1=>exact h1.symm
theorem ownK : ownKnob Tryz.prog.godebug = none:=by kernel_rfl
theorem oByte : yE Tryz.prog 5 1 (fun a : {n : Int // IntKind.u8.min <= n /\ n <= IntKind.u8.max}=>[AV.int .u8 a.1]):=.int (by kernel_rfl) (by kernel_rfl)
theorem oBytes : yE Tryz.prog 85 1 (fun p : Bool × List Int=>[AV.sl p.1 (bytes p.2)]):=
 (yE.slice (t:=85) (by kernel_rfl) (by kernel_rfl) oByte (by decide) (fun a=>.int .u8 a.1) (fun _=>rfl)).as (fun p=>⟨(p.1.1,p.1.2.map (·.1)),by simp [bytes]⟩) (fun _=>rfl)
end GA
end
section
namespace GA
open Go Go.RowKit Go.Proofs
theorem one1 {a : AV} (h : a.one = true) : ∀ x ∈ [a],x.one = true:=fun x hx=>by rw [List.mem_singleton] at hx;rw [hx];exact h
theorem jI (xs : List Int) : (ints xs).length = xs.length:=List.length_map _
end GA
end
section
namespace GA
open Go Go.RowKit Go.Proofs
structure Wg where
 m : Int
 sl : Int
 sh : Int
 ml : Int
 mh : Int
instance : Inhabited Wg:=⟨⟨0,0,0,0,0⟩⟩
def wgC (w : Wg) : List AV:=[.int .i64 w.m,.int .i64 w.sl,.int .i64 w.sh,.int .i64 w.ml,.int .i64 w.mh]
def wgA (w : Wg) : AV:=.agg (wgC w)
structure Hu where
 months : Int
 peak : Int
 nw : Bool
 ws : List Wg
def huC (h : Hu) : List AV:=[.int .i64 h.months,.int .i64 h.peak,.sl h.nw (h.ws.map wgA)]
def huA (h : Hu) : AV:=.agg (huC h)
theorem wgL {n : Nat} (w : Wg) : (wgA w).low n = true:=rfl
theorem jg {n : Nat} (xs : List Wg) : lowL n (xs.map wgA) = true:=zT (fun _=>rfl) xs
theorem huCL {n : Nat} (h : Hu) : lowL n (huC h) = true:=by unfold huC;simp only [lowL,AV.low,jg];rfl
theorem huL {n : Nat} (h : Hu) : (huA h).low n = true:=huCL h
theorem huOne (h : Hu) : ∀ x ∈ huC h,x.one = true:=by simp [huC,AV.one]
structure HuOk (h : Hu) : Prop where
 m1 : 1 <= h.months
 m2 : h.months <= 12
 w1 : h.ws.length <= 14
 p1 : 0 <= h.peak
 p2 : h.peak < h.months
 mo : ∀ w ∈ h.ws,0 <= w.m /\ w.m < h.months
 s : ∀ w ∈ h.ws,1 <= w.sl /\ w.sl <= w.sh /\ w.sh <= 1000
 t : ∀ w ∈ h.ws,1 <= w.ml /\ w.ml <= w.mh /\ w.mh <= 1000
def undB (h : Hu) (a b : Int) : Bool:=decide (a <= b) && decide (b <= h.peak) || decide (h.peak <= b) && decide (b <= a)
def abvQ (v w : Wg) : Bool:=decide (w.mh * v.sh < v.ml * w.sl)
def hcB (h : Hu) (v w : Wg) : Bool:=undB h v.m w.m && abvQ v w
def wsG (h : Hu) (a : Nat) : Wg:=h.ws.getD a default
def hcI (h : Hu) (a b : Nat) : Bool:=decide (a < h.ws.length) && decide (b < h.ws.length) && hcB h (wsG h a) (wsG h b)
def clM (h : Hu) (j : Nat) : Bool:=hcI h (j / 14) (j % 14)
theorem yV {h : Hu} {a b : Nat} (e : hcI h a b = true) : a < h.ws.length /\ b < h.ws.length /\ hcB h (wsG h a) (wsG h b) = true:=by
 unfold hcI at e
 simp only [Bool.and_eq_true,decide_eq_true_eq] at e
 exact ⟨e.1.1,e.1.2,e.2⟩
theorem clM_at {h : Hu} {a b : Nat} (hb : b < 14) : clM h (14 * a + b) = hcI h a b:=by
 unfold clM
 rw [show (14 * a + b) / 14 = a by omega,show (14 * a + b) % 14 = b by omega]
def belO (h : Hu) (a : Nat) : List Nat:=(List.range h.ws.length).filter (hcI h a)
def clsG (h : Hu) (g : Nat -> Bool) : Bool:=(List.range h.ws.length).any fun a=>(belO h a).any fun b=>!g a && !g b
theorem k0 {h : Hu} {g : Nat -> Bool} : clsG h g = true ↔ ∃ a b,hcI h a b = true /\ g a = false /\ g b = false:=by
 unfold clsG belO
 rw [List.any_eq_true]
 constructor
 ·rintro ⟨a,-,h2⟩
  obtain ⟨b,hb,h3⟩:=List.any_eq_true.1 h2
  simp only [Bool.and_eq_true,Bool.not_eq_true'] at h3
  exact ⟨a,b,(List.mem_filter.1 hb).2,h3.1,h3.2⟩
 ·rintro ⟨a,b,h1,h2,h3⟩
  obtain ⟨q1,q2,-⟩:=yV h1
  refine ⟨a,List.mem_range.2 q1,List.any_eq_true.2 ⟨b,List.mem_filter.2 ⟨List.mem_range.2 q2,h1⟩,by rw [h2,h3];rfl⟩⟩
def kV (h : Hu) (i : Nat) : Prop:=∀ a b,hcI h a b = true -> a = i /\ b ≠ i
theorem kV.nil {h : Hu} {i a : Nat} (o : kV h i) (ha : a ≠ i) : belO h a = []:=by
 unfold belO
 rw [List.filter_eq_nil_iff]
 intro b _ hb
 exact ha (o a b hb).1
def yv (h : Hu) (n : Nat) : Bool:=!clsG h fun k=>k == n
theorem zbp {h : Hu} {i : Nat} (o : kV h i) : yv h i = true:=by
 unfold yv
 rw [Bool.not_eq_true',<- Bool.not_eq_true,k0]
 rintro ⟨a,b,h1,h2,-⟩
 rw [(o a b h1).1] at h2
 simp at h2
theorem zaO {h : Hu} {i n b : Nat} (o : kV h i) (hn : n ≠ i) (hb : hcI h i b = true) (hk : yv h n = true) : n = b:=by
 unfold yv at hk
 rw [Bool.not_eq_true',<- Bool.not_eq_true,k0] at hk
 refine Classical.byContradiction fun hne=>hk ⟨i,b,hb,?_,?_⟩
 ·rw [beq_eq_false_iff_ne];exact fun e=>hn e.symm
 ·rw [beq_eq_false_iff_ne];exact fun e=>hne e.symm
theorem trust_len {h : Hu} {i b : Nat} (o : kV h i) (hb : hcI h i b = true) : h.ws.length <= ((List.range h.ws.length).filter fun n=>!yv h n).length + 2:=by
 have h1 : ∀ n,(!yv h n) = false -> n = i \/ n = b:=fun n hn=>by
  rw [Bool.not_eq_false'] at hn
  by_cases e : n = i
  ·exact .inl e
  ·exact .inr (zaO o e hb hn)
 have gen : ∀ (l : List Nat),l.Nodup -> l.length <= (l.filter fun n=>!yv h n).length + ((l.filter fun n=>n == i).length + (l.filter fun n=>n == b).length):=by
  intro l
  induction l with
  | nil=>intro _;simp
  | cons x l ih =>
    intro hn
    have:=ih (List.nodup_cons.1 hn).2
    rw [List.filter_cons,List.filter_cons,List.filter_cons,List.length_cons]
    cases hk : (!yv h x) with
    | true=>rw [if_pos rfl,List.length_cons];split <;> split <;> (try simp only [List.length_cons]) <;> omega
    | false =>
      rw [if_neg (by simp)]
      rcases h1 x hk with rfl | rfl
      ·rw [if_pos (by simp)];split <;> (try simp only [List.length_cons]) <;> omega
      ·rw [if_pos (show (x == x) = true by simp)];split <;> (try simp only [List.length_cons]) <;> omega
 have one : ∀ (l : List Nat) (c : Nat),l.Nodup -> (l.filter fun n=>n == c).length <= 1:=by
  intro l c
  induction l with
  | nil=>intro _;simp
  | cons x l ih =>
    intro hn
    obtain ⟨n1,n2⟩:=List.nodup_cons.1 hn
    rw [List.filter_cons]
    split
    ·rename_i e
     rw [beq_iff_eq] at e
     have : (l.filter fun n=>n == c) = []:=by
      rw [List.filter_eq_nil_iff]
      intro y hy hyc
      rw [beq_iff_eq] at hyc
      exact n1 (by rw [e,<- hyc];exact hy)
     rw [this];simp
    ·exact ih n2
 have g:=gen _ (List.nodup_range (n:=h.ws.length))
 have g1:=one _ i (List.nodup_range (n:=h.ws.length))
 have g2:=one _ b (List.nodup_range (n:=h.ws.length))
 rw [List.length_range] at g
 omega
def UpR (r : Int) (w : Wg) : Prop:=0 < w.sl /\ w.sl = w.sh /\ 100 * w.ml <= w.sl * r
def LoR (r : Int) (w : Wg) : Prop:=0 < w.sl /\ w.sl = w.sh /\ w.sl * r < 100 * w.mh
theorem abvQ_no {r : Int} {v w : Wg} (hv : UpR r v) (hw : LoR r w) : abvQ v w = false:=by
 obtain ⟨v1,v2,v3⟩:=hv
 obtain ⟨w1,w2,w3⟩:=hw
 unfold abvQ
 rw [decide_eq_false_iff_not,Int.not_lt,<- v2]
 have e1 : (100 * v.ml) * w.sl <= (v.sl * r) * w.sl:=Int.mul_le_mul_of_nonneg_right v3 (by omega)
 have e2 : (w.sl * r) * v.sl <= (100 * w.mh) * v.sl:=Int.mul_le_mul_of_nonneg_right (by omega) (by omega)
 have e3 : (v.sl * r) * w.sl = (w.sl * r) * v.sl:=by rw [Int.mul_assoc,Int.mul_comm v.sl,Int.mul_comm r]
 have e4 : (100 * v.ml) * w.sl = 100 * (v.ml * w.sl):=Int.mul_assoc _ _ _
 have e5 : (100 * w.mh) * v.sl = 100 * (w.mh * v.sl):=Int.mul_assoc _ _ _
 omega
theorem abvQ_self {w : Wg} (h1 : w.sl = w.sh) (h2 : 0 <= w.sl) (h3 : w.ml <= w.mh) : abvQ w w = false:=by
 unfold abvQ
 rw [decide_eq_false_iff_not,Int.not_lt,<- h1]
 exact Int.mul_le_mul_of_nonneg_right h3 h2
theorem fg {r : Int} {h : Hu} (hu : ∀ w ∈ h.ws,UpR r w) (hl : ∀ w ∈ h.ws,LoR r w) (a b : Nat) : hcI h a b = false:=by
 rw [<- Bool.not_eq_true]
 intro e
 obtain ⟨h1,h2,h3⟩:=yV e
 unfold hcB at h3
 rw [Bool.and_eq_true] at h3
 have e4 : abvQ (wsG h a) (wsG h b) = false:=abvQ_no (hu _ (zn (d:=default) h1)) (hl _ (zn (d:=default) h2))
 rw [e4] at h3
 cases h3.2
theorem one_up {r : Int} {h : Hu} {i : Nat} (hu : ∀ a,a < h.ws.length -> a ≠ i -> UpR r (wsG h a)) (hl : ∀ w ∈ h.ws,LoR r w) (hs : i < h.ws.length -> (wsG h i).ml <= (wsG h i).mh) : kV h i:=by
 intro a b e
 obtain ⟨h1,h2,h3⟩:=yV e
 unfold hcB at h3
 rw [Bool.and_eq_true] at h3
 have hlb : LoR r (wsG h b):=hl _ (zn (d:=default) h2)
 by_cases ha : a = i
 ·refine ⟨ha,fun hb=>?_⟩
  subst ha hb
  have : LoR r (wsG h b):=hl _ (zn (xs:=h.ws) (d:=default) h1)
  rw [abvQ_self this.2.1 (by have:=this.1;exact Int.le_of_lt this) (hs h1)] at h3
  cases h3.2
 ·rw [abvQ_no (hu a h1 ha) hlb] at h3
  cases h3.2
end GA
end
section
namespace GA
open Go Go.RowKit Go.Proofs
theorem idxf_wg (nl : Bool) (xs : List Wg) (g : FuncId) (caps : List AV) (p : Wg -> Bool) (hl : lowL 0 caps = true) (hx : xs.length <= 100000) (hp : ∀ x ∈ xs,Comp Tryz.prog g ((wgA x) :: caps) (.bool (p x))) :
  Comp Tryz.prog 433 [.sl nl (xs.map (wgA)),.fn g caps] (.int .i64 (idxR p xs)):=by
 refine Comp.body (T:=tab) (res:=[.tmp 4]) za [] Tryz.func433 rfl (by kernel_rfl) Tryz.ntmps433 rfl (by simp only [List.length_cons,List.length_nil];decide) (by simp only [lowL,AV.low,jg,hl];rfl) ?_;conv=>whnf
 refine Walk.loop za [] (fun i : Nat=>i <= xs.length /\ ∀ j,j < i -> p (xs.getD j default) = false) (fun i=>[(0,.sl nl (xs.map (wgA))),(1,.fn g caps),(7,.int .i64 xs.length),(8,.int .i64 i)]) (fun _=>[]) (fun i=>xs.length - i) 0 ⟨by omega,by omega⟩ rfl ⟨rfl,rfl,by simp only [List.length_map];rfl,rfl,trivial⟩ ?_
 rintro i ⟨h2,h3⟩
 conv=>whnf
 repeat' first|((with_reducible first|refine XBr.y fun h=>?_|refine XBr.n fun h=>?_|refine XBr.dec (fun h=>?_) fun h=>?_) <;> conv=>whnf)|(refine XIx.a ?_;conv=>whnf)|fail
 ·refine zf.ret (hp _ (zn (i:=i) (d:=default) (by omega))) ?_
  conv=>whnf
  refine XBr.mk' ?_ ?_ <;> intro h4 <;> (conv=>whnf)
  ·refine XOut.int ?_
   simp only [idxR,kn (d:=default) (i:=i) (by omega) h4 h3]
  ·skip
   repeat' ((with_reducible refine XInt.a ?_);conv=>whnf)
   refine zu.go (i + 1) ⟨by omega,fun j hj=>?_⟩ (by omega) rfl ⟨rfl,rfl,rfl,rfl,trivial⟩
   by_cases hji : j = i
   ·subst hji;exact h4
   ·exact h3 j (by omega)
 ·refine XOut.int ?_
  simp only [idxR,kj (d:=default) fun j hj=>h3 j (by omega)]
theorem contf_wg (nl : Bool) (xs : List Wg) (g : FuncId) (caps : List AV) (p : Wg -> Bool) (hl : lowL 0 caps = true) (hx : xs.length <= 100000) (hp : ∀ x ∈ xs,Comp Tryz.prog g ((wgA x) :: caps) (.bool (p x))) :
  Comp Tryz.prog 400 [.sl nl (xs.map (wgA)),.fn g caps] (.bool (xs.any p)):=by
 refine Comp.body (T:=tab) (res:=[.tmp 4]) za [] Tryz.func400 rfl (by kernel_rfl) Tryz.ntmps400 rfl (by simp only [List.length_cons,List.length_nil];decide) (by simp only [lowL,AV.low,jg,hl];rfl) ?_;conv=>whnf
 refine zf.ret (idxf_wg nl xs g caps p hl hx hp) ?_
 conv=>whnf
 refine XOut.bool ?_
 rw [Bool.eq_iff_iff,decide_eq_true_eq];exact kW
theorem every1_wg (x : Wg) (g : FuncId) (caps : List AV) (p : Wg -> Bool) (hl : lowL 0 caps = true) (hp : Comp Tryz.prog g ((wgA x) :: caps) (.bool (p x))) :
  Comp Tryz.prog 401 [(wgA x),.pim [.fn g caps]] (.bool (!p x)):=by
 refine Comp.body (T:=tab) (res:=[.tmp 3]) za [] Tryz.func401 rfl (by kernel_rfl) Tryz.ntmps401 rfl (by simp only [List.length_cons,List.length_nil];decide) (by simp only [lowL,AV.low,wgL,hl];rfl) ?_;conv=>whnf
 refine zf.ret hp ?_
 conv=>whnf
 exact XOut.bool rfl
theorem qJ (nl : Bool) (xs : List Wg) (g : FuncId) (caps : List AV) (p : Wg -> Bool) (hl : lowL 0 caps = true) (hx : xs.length <= 100000) (hp : ∀ x ∈ xs,Comp Tryz.prog g ((wgA x) :: caps) (.bool (p x))) :
  Comp Tryz.prog 344 [.sl nl (xs.map (wgA)),.fn g caps] (.bool (xs.all p)):=by
 refine Comp.body (T:=tab) (res:=[.tmp 4]) za [] Tryz.func344 rfl (by kernel_rfl) Tryz.ntmps344 rfl (by simp only [List.length_cons,List.length_nil];decide) (by simp only [lowL,AV.low,jg,hl];rfl) ?_;conv=>whnf
 refine zf.ret (contf_wg nl xs 401 [.pim [.fn g caps]] (fun x=>!p x) (by simp only [lowL,AV.low,hl];rfl) hx fun x hm=>every1_wg x g caps p hl (hp x hm)) ?_
 conv=>whnf
 refine XOut.bool ?_
 rw [List.not_any_eq_all_not];simp
theorem zaj (n lo hi : Int) : Comp Tryz.prog 343 [.int .i64 n,.int .i64 lo,.int .i64 hi] (.bool (inZ n lo hi)):=by
 refine Comp.body (T:=tab) (res:=[.tmp 6]) za [] Tryz.func343 rfl (by kernel_rfl) Tryz.ntmps343 rfl (by simp only [List.length_cons,List.length_nil];decide) (by rfl) ?_;conv=>whnf
 repeat' ((with_reducible first|apply XBr.tt|apply XBr.ff|refine XBr.y fun h=>?_|refine XBr.n fun h=>?_|refine XBr.dec (fun h=>?_) fun h=>?_) <;> conv=>whnf)
 all_goals (refine XOut.bool ?_;rw [Bool.eq_iff_iff];simp [inZ];try omega)
theorem g9 (hh : Hu) (m : Int) (h1 : 1 <= hh.months) (h2 : hh.months <= 12) : Comp Tryz.prog 341 [huA hh,.int .i64 m] (.bool (inZ m 0 (hh.months - 1))):=by
 refine Comp.body (T:=tab) (res:=[.tmp 4]) za [] Tryz.func341 rfl (by kernel_rfl) Tryz.ntmps341 rfl (by simp only [List.length_cons,List.length_nil];decide) (by simp only [lowL,huL];rfl) ?_;conv=>whnf
 repeat' first|((first|(with_reducible refine XInt.a ?_)|(refine zf.ret (zaj _ _ _) ?_));conv=>whnf)|fail
 exact XOut.bool rfl
theorem boChk1_c (a b : Int) : Comp Tryz.prog 342 [.agg [.int .i64 a,.int .i64 b]] (.bool (inZ a 1 1000 && inZ b 1 1000)):=by
 refine Comp.body (T:=tab) (res:=[.tmp 2]) za [] Tryz.func342 rfl (by kernel_rfl) Tryz.ntmps342 rfl (by simp only [List.length_cons,List.length_nil];decide) (by rfl) ?_;conv=>whnf
 repeat' first|((first|(with_reducible first|apply XBr.tt|apply XBr.ff)|(refine zf.ret (zaj _ _ _) ?_));conv=>whnf)|((with_reducible refine XBr.mk' (fun h=>?_) fun h=>?_) <;> conv=>whnf)|fail
 all_goals (refine XOut.bool ?_;simp_all)
theorem boChk2_c (hh : Hu) (w : Wg) (h1 : 1 <= hh.months) (h2 : hh.months <= 12) : Comp Tryz.prog 345 [wgA w,.pim [.bf 341 [huA hh]]] (.bool (inZ w.m 0 (hh.months - 1))):=by
 refine Comp.body (T:=tab) (res:=[.tmp 3]) za [] Tryz.func345 rfl (by kernel_rfl) Tryz.ntmps345 rfl (by simp only [List.length_cons,List.length_nil];decide) (by simp only [lowL,AV.low,huL,wgL];rfl) ?_;conv=>whnf
 repeat' ((refine zf.ret (g9 hh _ h1 h2) ?_);conv=>whnf)
 exact XOut.bool rfl
theorem boChk3_c (w : Wg) : Comp Tryz.prog 346 [wgA w,.pim [.fn 342 []]] (.bool ((inZ w.sl 1 1000 && inZ w.sh 1 1000) && (inZ w.ml 1 1000 && inZ w.mh 1 1000))):=by
 refine Comp.body (T:=tab) (res:=[.tmp 3]) za [] Tryz.func346 rfl (by kernel_rfl) Tryz.ntmps346 rfl (by simp only [List.length_cons,List.length_nil];decide) (by simp only [lowL,AV.low,wgL];rfl) ?_;conv=>whnf
 repeat' first|((first|(with_reducible first|apply XBr.tt|apply XBr.ff)|(refine zf.ret (boChk1_c _ _) ?_));conv=>whnf)|((with_reducible refine XBr.mk' (fun h=>?_) fun h=>?_) <;> conv=>whnf)|fail
 all_goals (refine XOut.bool ?_;simp_all)
theorem boChk4_c (w : Wg) : Comp Tryz.prog 347 [wgA w] (.bool (decide (w.sl <= w.sh) && decide (w.ml <= w.mh))):=by
 refine Comp.body (T:=tab) (res:=[.tmp 2]) za [] Tryz.func347 rfl (by kernel_rfl) Tryz.ntmps347 rfl (by simp only [List.length_cons,List.length_nil];decide) (by simp only [lowL,AV.low,wgL];rfl) ?_;conv=>whnf
 repeat' ((with_reducible first|apply XBr.tt|apply XBr.ff|refine XBr.y fun h=>?_|refine XBr.n fun h=>?_|refine XBr.dec (fun h=>?_) fun h=>?_) <;> conv=>whnf)
 all_goals (refine XOut.bool ?_;simp_all <;> omega)
theorem vA (hh : Hu) (ok : HuOk hh) : Comp Tryz.prog 227 [huA hh] (.int .i64 0):=by
 have m1:=ok.m1;have m2:=ok.m2;have w1:=ok.w1;have p1:=ok.p1;have p2:=ok.p2
 have e1 : ((hh.ws.map wgA).length : Int) = hh.ws.length:=by rw [List.length_map]
 have c2:=qJ hh.nw hh.ws 345 [.pim [.bf 341 [huA hh]]] (fun w=>inZ w.m 0 (hh.months - 1)) (by simp only [lowL,AV.low,huL];rfl) (by omega) fun w _=>boChk2_c hh w m1 m2
 have c3:=qJ hh.nw hh.ws 346 [.pim [.fn 342 []]] (fun w=>(inZ w.sl 1 1000 && inZ w.sh 1 1000) && (inZ w.ml 1 1000 && inZ w.mh 1 1000)) rfl (by omega) fun w _=>boChk3_c w
 have c4:=qJ hh.nw hh.ws 347 [] (fun w=>decide (w.sl <= w.sh) && decide (w.ml <= w.mh)) rfl (by omega) fun w _=>boChk4_c w
 have a2 : hh.ws.all (fun w=>inZ w.m 0 (hh.months - 1)) = true:=List.all_eq_true.2 fun w hw=>by have:=ok.mo w hw;exact zz.2 (by omega)
 have a3 : hh.ws.all (fun w=>(inZ w.sl 1 1000 && inZ w.sh 1 1000) && (inZ w.ml 1 1000 && inZ w.mh 1 1000)) = true:=List.all_eq_true.2 fun w hw=>by
  have:=ok.s w hw;have:=ok.t w hw
  simp only [Bool.and_eq_true,zz];omega
 have a4 : hh.ws.all (fun w=>decide (w.sl <= w.sh) && decide (w.ml <= w.mh)) = true:=List.all_eq_true.2 fun w hw=>by
  have:=ok.s w hw;have:=ok.t w hw
  simp only [Bool.and_eq_true,decide_eq_true_eq];omega
 have i1 : inZ hh.months 1 12 = true:=zz.2 ⟨m1,m2⟩
 have i2 : inZ hh.peak 0 (hh.months - 1) = true:=zz.2 (by omega)
 have cm:=g9 hh hh.peak m1 m2
 have ci:=zaj hh.months 1 12
 rw [a2] at c2
 rw [a3] at c3
 rw [a4] at c4
 rw [i2] at cm
 rw [i1] at ci
 have hlo : (AV.bf 341 [huA hh]).low 0 = true:=by simp only [AV.low,lowL,huL];rfl
 refine Comp.body (T:=tab) (res:=[.tmp 2]) za [] Tryz.func227 rfl (by kernel_rfl) Tryz.ntmps227 rfl (by simp only [List.length_cons,List.length_nil];decide) (by simp only [lowL,huL];rfl) ?_;conv=>whnf
 repeat' first|((with_reducible first|apply XBr.tt|apply XBr.ff|refine XBr.y fun h=>?_|refine XBr.n fun h=>?_|refine XBr.dec (fun h=>?_) fun h=>?_) <;> conv=>whnf) | with_reducible apply XBr.not|((first|refine zf.ret ci ?_|refine zf.ret cm ?_|refine zf.ret c4 ?_|refine zf.lend c2 (.cons (.low (jg _)) (.cons (Froz.fn (.cons (Froz.ptr rfl (one1 rfl) (.cons (.low hlo) .nil)) .nil)) .nil)) rfl ?_|refine zf.lend c3 (.cons (.low (jg _)) (.cons (Froz.fn (.cons (Froz.ptr rfl (one1 rfl) (.cons (.low rfl) .nil)) .nil)) .nil)) rfl ?_);conv=>whnf)|fail
 exact XOut.int rfl
theorem boUnder_c (hh : Hu) (a b : Int) : Comp Tryz.prog 333 [huA hh,.int .i64 a,.int .i64 b] (.bool (undB hh a b)):=by
 refine Comp.body (T:=tab) (res:=[.tmp 6]) za [] Tryz.func333 rfl (by kernel_rfl) Tryz.ntmps333 rfl (by simp only [List.length_cons,List.length_nil];decide) (by simp only [lowL,AV.low,huL];rfl) ?_;conv=>whnf
 refine Walk.norm za [] [(1,.int .i64 a),(2,.int .i64 b),(3,.pim (huC hh))] ⟨rfl,rfl,rfl,trivial⟩ ?_
 conv=>whnf
 repeat' ((with_reducible first|apply XBr.tt|apply XBr.ff|refine XBr.y fun h=>?_|refine XBr.n fun h=>?_|refine XBr.dec (fun h=>?_) fun h=>?_) <;> conv=>whnf)
 all_goals (refine XOut.bool ?_;unfold undB;simp_all <;> omega)
theorem boAbove_c (a b c d : Nat) (h1 : a <= 100000) (h2 : b <= 100000) (h3 : c <= 100000) (h4 : d <= 100000) : Comp Tryz.prog 334 [.agg [natA a,natA b],.agg [natA c,natA d]] (.bool (decide (c * b < a * d))):=by
 have q1 : a * d <= 100000 * 100000:=Nat.mul_le_mul h1 h4
 have q2 : c * b <= 100000 * 100000:=Nat.mul_le_mul h3 h2
 have e1 : (a : Int) * (d : Int) = ((a * d : Nat) : Int):=(Int.natCast_mul a d).symm
 have e2 : (c : Int) * (b : Int) = ((c * b : Nat) : Int):=(Int.natCast_mul c b).symm
 refine Comp.body (T:=tab) (res:=[.tmp 4]) za [] Tryz.func334 rfl (by kernel_rfl) Tryz.ntmps334 rfl (by simp only [List.length_cons,List.length_nil];decide) (by rfl) ?_;conv=>whnf
 repeat' ((with_reducible refine XInt.a ?_);conv=>whnf)
 refine XOut.bool ?_
 rw [decide_eq_decide];omega
def loN (p o : Nat) : Nat × Nat:=(p / Nat.gcd p o,o / Nat.gcd p o)
theorem XInt.tdivN {p a : Nat} {k : AV -> Prop} (hh : p <= 1000000) (hk : k (.int .i64 ((p / a : Nat) : Int))) : XInt .i64 ((p : Int).tdiv a) k:=by
 have e : (p : Int).tdiv a = ((p / a : Nat) : Int):=rfl
 have hd : p / a <= p:=Nat.div_le_self _ _
 rw [e]
 generalize p / a = n at hk hd
 exact XInt.i64 (by omega) (by omega) hk
theorem qT (p o : Nat) (ho : 0 < o) (h1 : p <= 1000000) (h2 : o <= 1000000) : Comp Tryz.prog 397 [natA p,natA o] (.agg [natA (loN p o).1,natA (loN p o).2]):=by
 refine Comp.body (T:=tab) (res:=[.cell 4 67]) za [] Tryz.func397 rfl (by kernel_rfl) Tryz.ntmps397 rfl (by simp only [List.length_cons,List.length_nil];decide) (by rfl) ?_;conv=>whnf
 skip
 refine Walk.loop za [] (fun g : Nat × Nat=>Nat.gcd g.1 g.2 = Nat.gcd p o /\ g.1 <= 1000000 /\ g.2 <= 1000000 /\ 0 < g.1 + g.2) (fun g=>[(0,natA p),(1,natA o),(4,.ptr 0 0),(5,natA g.1),(6,natA g.2)])
  (fun _=>[.cells [.int .i64 0,.int .i64 0]]) (fun g=>g.2) (p,o) ⟨rfl,h1,h2,by dsimp only;omega⟩ rfl ⟨rfl,rfl,rfl,rfl,rfl,trivial⟩ ?_
 rintro ⟨a,b⟩ ⟨g1,g2,g3,g4⟩
 dsimp only at g1 g2 g3 g4 ⊢
 conv=>whnf
 by_cases hb : 0 < b
 ·have hm:=Nat.mod_lt a hb
  have ht : (a : Int).tmod b = ((a % b : Nat) : Int):=rfl
  repeat' ((with_reducible first|refine XBr.y fun h=>?_|refine XBr.n fun h=>?_|refine XBr.dec (fun h=>?_) fun h=>?_) <;> conv=>whnf)
  apply Walk.drawX za zi [] [] (hsK _) [natA b,natA a,natA b,natA (a % b),natA b,natA (a % b)] (by kernel_rfl) rfl
  ·skip
   repeat' first|((with_reducible first|apply Chk.go|apply ChkA.go);conv=>whnf)|(refine zj.a ?_;conv=>whnf)|(with_reducible first|apply XAnd.mk|exact trivial)|(exact zm.mk rfl rfl)|fail
  ·skip
   repeat' first|((with_reducible first|apply ChkF.go|apply ChkB.go);conv=>whnf)|(with_reducible first|apply XAnd.mk|exact trivial)|fail
  conv=>whnf
  skip
  refine zu.go (b,a % b) ⟨by dsimp only;rw [Nat.gcd_comm,<- g1,Nat.gcd_comm a b,Nat.gcd_rec b a],by dsimp only;omega,by dsimp only;omega,by dsimp only;omega⟩ (by dsimp only;omega) rfl ⟨rfl,rfl,rfl,rfl,rfl,trivial⟩
 ·have hb : b = 0:=by omega
  subst hb
  rw [Nat.gcd_zero_right] at g1
  have hd1 : p / a <= p:=Nat.div_le_self _ _
  have hd2 : o / a <= o:=Nat.div_le_self _ _
  have ht1 : (p : Int).tdiv a = ((p / a : Nat) : Int):=rfl
  have ht2 : (o : Int).tdiv a = ((o / a : Nat) : Int):=rfl
  repeat' ((with_reducible first|refine XBr.y fun h=>?_|refine XBr.n fun h=>?_|refine XBr.dec (fun h=>?_) fun h=>?_) <;> conv=>whnf)
  apply Walk.drawX za zi [] [7] (hsV _ [id,fun _=>[.cells [natA (p / a),natA (o / a)]]]) [_,_,natA (p / a),_,_,natA (o / a),.agg [natA (p / a),natA (o / a)],_] (by kernel_rfl) rfl
  ·skip
   repeat' first|((with_reducible first|apply Chk.go|apply ChkA.go);conv=>whnf)|(refine zj.a ?_;conv=>whnf)|(with_reducible first|apply XAnd.mk|exact trivial)|(exact zm.mk rfl rfl)|((refine XInt.tdivN (by omega) ?_);conv=>whnf)|fail
  ·skip
   repeat' first|((with_reducible first|apply ChkF.go|apply ChkB.go);conv=>whnf)|(with_reducible first|apply XAnd.mk|exact trivial)|fail
  conv=>whnf
  skip
  unfold loN;dsimp only
  rw [<- g1]
  exact ⟨Froz.low rfl⟩
end GA
end
