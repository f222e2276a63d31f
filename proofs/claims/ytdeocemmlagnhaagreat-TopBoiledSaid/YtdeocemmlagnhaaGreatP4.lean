/- Part 4 of a proof: Abs26, Abs27, Abs28, Abs29, Abs30, Abs31, Abs32, Abs34, AbsS, Abs35, AbsI, Abs36, Abs37, Abs38, Abs39, Abs40, Abs42, Abs47, Abs48, Abs49. -/
import Derived.Test.YtdeocemmlagnhaaGreatP3
import Derived.WalkKit
import Derived.ProofKit
import Derived.OpenShut
import Derived.ChangeArms
import Derived.WideKeyArgs
import Derived.Deep.Slices
import Derived.Shelf.Spec.SlicesInsert
import Derived.Shelf.Spec.SlicesInsertGrow
set_option linter.unusedVariables false
set_option linter.unusedSimpArgs false
set_option maxRecDepth 8000
section
namespace GA
open Go Go.RowKit
mutual
def AV.ren (ρ : Nat -> Nat) : AV -> AV
 | .ptr i o=>.ptr (ρ i) o
 | .gr i n=>.gr (ρ i) n
 | .gp i n e o=>.gp (ρ i) n e o
 | .os i m o n=>.os (ρ i) m o n
 | .mp i=>.mp (ρ i)
 | .yld i=>.yld (ρ i)
 | .pim cs=>.pim (renL ρ cs)
 | .sl nl cs=>.sl nl (renL ρ cs)
 | .fn f cs=>.fn f (renL ρ cs)
 | .bf f cs=>.bf f (renL ρ cs)
 | .agg cs=>.agg (renL ρ cs)
 | .tup cs=>.tup (renL ρ cs)
 | .im ks cs=>.im ks (renL ρ cs)
 | .bool b=>.bool b
 | .int k n=>.int k n
 | .nilp=>.nilp
 | .se=>.se
 | .nilm=>.nilm
 | .nilf=>.nilf
def renL (ρ : Nat -> Nat) : List AV -> List AV
 | []=>[]
 | x :: l=>x.ren ρ :: renL ρ l
end
theorem zt (ρ : Nat -> Nat) : ∀ l : List AV,renL ρ l = l.map (AV.ren ρ)
 | []=>rfl
 | x :: l=>by rw [renL,zt ρ l];rfl
def Blk.ren (ρ : Nat -> Nat) : Blk -> Blk
 | .dead=>.dead
 | .free=>.free
 | .cells cs=>.cells (renL ρ cs)
 | .grow t nl els=>.grow t nl (renL ρ els)
 | .map es=>.map (es.map fun p=>(p.1,p.2.ren ρ))
 | .pm es=>.pm (es.map fun p=>(p.1,p.2.ren ρ))
 | .raw o=>.raw o
 | .lp st pend f tm ps x y n=>.lp st pend f (tm.map fun p=>(p.1,p.2.ren ρ)) ps x y n
theorem AV.ren_one (ρ : Nat -> Nat) (a : AV) : (a.ren ρ).one = a.one:=by cases a <;> rfl
theorem AV.ren_cells (ρ : Nat -> Nat) (a : AV) : (a.ren ρ).cells = a.cells.map (AV.ren ρ):=by
 cases a <;> first | rfl|(simp only [AV.ren,AV.cells,zt];rfl) | simp only [AV.ren,AV.cells,zt]
theorem y9 (ρ : Nat -> Nat) (l : List AV) : flat (l.map (AV.ren ρ)) = (flat l).map (AV.ren ρ):=by
 induction l with
 | nil=>rfl
 | cons x l ih =>
   simp only [flat,List.map_cons,List.flatMap_cons,List.map_append] at ih ⊢
   rw [ih,AV.ren_cells]
theorem Blk.ren_free (ρ : Nat -> Nat) (x : Blk) : (x.ren ρ).isFree = x.isFree:=by cases x <;> rfl
theorem Blk.ren_rec (ρ : Nat -> Nat) (x : Blk) : (x.ren ρ).isRec = x.isRec:=by cases x <;> rfl
theorem Blk.ren_isMap (ρ : Nat -> Nat) (x : Blk) : (x.ren ρ).isMap = x.isMap:=by cases x <;> rfl
theorem AV.ren_low {ρ : Nat -> Nat} {n : Nat} (h : ∀ i,i < n -> ρ i = i) : ∀ {a : AV},a.low n = true -> a.ren ρ = a:=by
 intro a
 refine AV.rec (motive_1:=fun a=>a.low n = true -> a.ren ρ = a) (motive_2:=fun l=>lowL n l = true -> renL ρ l = l) ?_ ?_ ?_ ?_ ?_ ?_ ?_ ?_ ?_ ?_ ?_ ?_ ?_ ?_ ?_ ?_ ?_ ?_ ?_ ?_ ?_ a
 all_goals try (intros;rfl)
 ·intro i o hl;simp only [AV.low,decide_eq_true_eq] at hl;rw [AV.ren,h i hl]
 ·intro cs ih hl;rw [AV.ren,ih hl]
 ·intro nl cs ih hl;rw [AV.ren,ih hl]
 ·intro i o hl;simp only [AV.low,decide_eq_true_eq] at hl;rw [AV.ren,h i hl]
 ·intro i o e f hl;simp only [AV.low,decide_eq_true_eq] at hl;rw [AV.ren,h i hl]
 ·intro i hl;simp only [AV.low,decide_eq_true_eq] at hl;rw [AV.ren,h i hl]
 ·intro f cs ih hl;rw [AV.ren,ih hl]
 ·intro f cs ih hl;rw [AV.ren,ih hl]
 ·intro i m o n hl;simp only [AV.low,decide_eq_true_eq] at hl;rw [AV.ren,h i hl]
 ·intro i hl;simp only [AV.low,decide_eq_true_eq] at hl;rw [AV.ren,h i hl]
 ·intro cs ih hl;rw [AV.ren,ih hl]
 ·intro cs ih hl;rw [AV.ren,ih hl]
 ·intro ks cs ih hl;rw [AV.ren,ih hl]
 ·intro x l ih1 ih2 hl;simp only [lowL,Bool.and_eq_true] at hl;rw [renL,ih1 hl.1,ih2 hl.2]
theorem qV {ρ : Nat -> Nat} {n : Nat} (h : ∀ i,i < n -> ρ i = i) {l : List AV} (hl : lowL n l = true) : renL ρ l = l:=by
 have:=AV.ren_low h (a:=.agg l) hl
 simpa [AV.ren] using this
theorem vm {ρ : Nat -> Nat} {l : List AV} (hl : lowL 0 l = true) : renL ρ l = l:=qV (n:=0) (fun i hi=>by omega) hl
structure Ren (ρ : Nat -> Nat) (β1 : Nat -> Value) (H1 : List Blk) (β : Nat -> Value) (H : List Blk) : Prop where
 m : ∀ (i : Nat) x1,H1[i]? = some x1 -> H[ρ i]? = some (x1.ren ρ)
 b : ∀ i,i < H1.length -> β (ρ i) = β1 i
section
variable {P : Program} {E : Env} {h : Nat -> Option Obj} {β β1 : Nat -> Value} {H H1 : List Blk} {w : World} {ρ : Nat -> Nat}
theorem Ren.live (R : Ren ρ β1 H1 β H) {i : Nat} (l : live H1 i) : live H (ρ i):=let ⟨x,h1,h2⟩:=l;⟨x.ren ρ,R.m i x h1,by rw [Blk.ren_free];exact h2⟩
theorem Ren.unlive (R : Ren ρ β1 H1 β H) {i : Nat} (l : GA.live H (ρ i)) (hi : i < H1.length) : GA.live H1 i:=by
 obtain ⟨x,h1,h2⟩:=l
 have h3:=R.m i _ (List.getElem?_eq_getElem hi)
 rw [h3] at h1;cases h1
 exact ⟨_,List.getElem?_eq_getElem hi,by rw [Blk.ren_free] at h2;exact h2⟩
theorem Ren.rep (R : Ren ρ β1 H1 β H) {a : AV} {v : Value} (x : Rep P h β1 H1 a v) : Rep P h β H (a.ren ρ) v:=by
 induction x with
 | bool b=>exact .bool b
 | int k n=>exact .int k n
 | nilp=>exact .nilp
 | @ptr i o b hi hb =>
   refine .ptr (R.live hi) fun cs e=>?_
   obtain ⟨x,hx,hf⟩:=hi
   rw [R.m i x hx] at e;rw [R.b i (List.getElem?_eq_some_iff.1 hx).1]
   cases x <;> simp only [Blk.ren,Option.some.injEq,reduceCtorEq] at e
   exact hb _ hx
 | pim us hone hb hc _ ih =>
   rw [AV.ren,zt]
   refine .pim us (fun x hx=>?_) hb (fun j x e=>?_) (fun j x e=>?_)
   ·obtain ⟨y,hy,rfl⟩:=List.mem_map.1 hx;rw [AV.ren_one];exact hone y hy
   ·rw [List.getElem?_map] at e;cases hq : ‹List AV›[j]? with | none=>simp [hq] at e | some y=>exact hc j y hq
   ·rw [List.getElem?_map] at e
    cases hq : ‹List AV›[j]? with
    | none=>simp [hq] at e
    | some y=>simp only [hq,Option.map_some,Option.some.injEq] at e;subst e;exact ih j y hq
 | slnil=>exact .slnil
 | slemp=>exact .slemp
 | @sl b off cap c t fz els w n us hn hne hb hw hw0 hone hcap hc _ ih =>
   rw [AV.ren,zt]
   refine .sl (w:=w) us (by rw [List.length_map];exact hn) (by simpa using hne) hb (fun e he=>?_) hw0 (fun x hx=>?_) (by rw [List.length_map];exact hcap) (fun j x e=>?_) (fun j x e=>?_)
   ·obtain ⟨y,hy,rfl⟩:=List.mem_map.1 he;rw [AV.ren_cells,List.length_map];exact hw y hy
   ·rw [y9] at hx;obtain ⟨y,hy,rfl⟩:=List.mem_map.1 hx;rw [AV.ren_one];exact hone y hy
   ·rw [y9,List.getElem?_map] at e;cases hq : (flat els)[j]? with | none=>simp [hq] at e | some y=>exact hc j y hq
   ·rw [y9,List.getElem?_map] at e
    cases hq : (flat els)[j]? with
    | none=>simp [hq] at e
    | some y=>simp only [hq,Option.map_some,Option.some.injEq] at e;subst e;exact ih j y hq
 | se=>exact .se
 | @gr i n v ho hi hv =>
   refine .gr ho (R.live hi) fun t nl els e=>?_
   obtain ⟨x,hx,hf⟩:=hi
   rw [R.m i x hx] at e;rw [R.b i (List.getElem?_eq_some_iff.1 hx).1]
   cases x <;> simp only [Blk.ren,Option.some.injEq,Blk.grow.injEq,reduceCtorEq] at e
   obtain ⟨rfl,rfl,rfl⟩:=e
   rw [zt,List.length_map];exact hv _ _ _ hx
 | @gp i n e o b q hi hv =>
   refine .gp (R.live hi) fun t nl els e=>?_
   obtain ⟨x,hx,hf⟩:=hi
   rw [R.m i x hx] at e;rw [R.b i (List.getElem?_eq_some_iff.1 hx).1]
   cases x <;> simp only [Blk.ren,Option.some.injEq,Blk.grow.injEq,reduceCtorEq] at e
   obtain ⟨rfl,rfl,rfl⟩:=e
   rw [zt,List.length_map];exact hv _ _ _ hx
 | nilm=>exact .nilm
 | @mp i r hi hb =>
   refine .mp (R.live hi) fun y e hy=>?_
   obtain ⟨x,hx,hf⟩:=hi
   rw [R.m i x hx] at e;rw [R.b i (List.getElem?_eq_some_iff.1 hx).1]
   cases e
   rw [Blk.ren_isMap] at hy
   exact hb _ hx hy
 | nilf=>exact .nilf
 | @yld i b hi hb =>
   refine .yld (R.live hi) fun y e hy=>?_
   obtain ⟨x,hx,hf⟩:=hi
   rw [R.m i x hx] at e;rw [R.b i (List.getElem?_eq_some_iff.1 hx).1]
   cases e
   rw [Blk.ren_rec] at hy
   exact hb _ hx hy
 | @fn f caps vs us hs hc _ ih =>
   rw [AV.ren,zt]
   refine .fn us (by rw [List.length_map];exact hs) (fun j x e=>?_) (fun j x e=>?_)
   ·rw [List.getElem?_map] at e;cases hq : caps[j]? with | none=>simp [hq] at e | some y=>exact hc j y hq
   ·rw [List.getElem?_map] at e
    cases hq : caps[j]? with
    | none=>simp [hq] at e
    | some y=>simp only [hq,Option.map_some,Option.some.injEq] at e;subst e;exact ih j y hq
 | @bf f caps vs us hs hc _ ih =>
   rw [AV.ren,zt]
   refine .bf us (by rw [List.length_map];exact hs) (fun j x e=>?_) (fun j x e=>?_)
   ·rw [List.getElem?_map] at e;cases hq : caps[j]? with | none=>simp [hq] at e | some y=>exact hc j y hq
   ·rw [List.getElem?_map] at e
    cases hq : caps[j]? with
    | none=>simp [hq] at e
    | some y=>simp only [hq,Option.map_some,Option.some.injEq] at e;subst e;exact ih j y hq
 | @os i m o n b q cap hi hn hc hg hz =>
   obtain ⟨x,hx,hf⟩:=id hi
   refine .os (R.live hi) hn (fun cs e hne=>?_) (fun t nl els e=>?_) fun ho t nl els e hlen=>?_
   ·rw [R.m i x hx] at e;rw [R.b i (List.getElem?_eq_some_iff.1 hx).1]
    cases x <;> simp only [Blk.ren,Option.some.injEq,reduceCtorEq] at e
    exact hc _ hx hne
   ·rw [R.m i x hx] at e;rw [R.b i (List.getElem?_eq_some_iff.1 hx).1]
    cases x <;> simp only [Blk.ren,Option.some.injEq,Blk.grow.injEq,reduceCtorEq] at e
    obtain ⟨rfl,rfl,rfl⟩:=e
    rw [zt,List.length_map];exact hg _ _ _ hx
   ·rw [R.m i x hx] at e;rw [R.b i (List.getElem?_eq_some_iff.1 hx).1]
    cases x <;> simp only [Blk.ren,Option.some.injEq,Blk.grow.injEq,reduceCtorEq] at e
    obtain ⟨rfl,rfl,rfl⟩:=e
    rw [zt,List.length_map] at hlen;exact hz ho _ _ _ hx hlen
 | @agg caps vs us hs hone hc _ ih =>
   rw [AV.ren,zt]
   refine .agg us (by rw [List.length_map];exact hs) (fun x hx=>?_) (fun j x e=>?_) (fun j x e=>?_)
   ·obtain ⟨y,hy,rfl⟩:=List.mem_map.1 hx;rw [AV.ren_one];exact hone y hy
   ·rw [List.getElem?_map] at e;cases hq : caps[j]? with | none=>simp [hq] at e | some y=>exact hc j y hq
   ·rw [List.getElem?_map] at e
    cases hq : caps[j]? with
    | none=>simp [hq] at e
    | some y=>simp only [hq,Option.map_some,Option.some.injEq] at e;subst e;exact ih j y hq
 | @tup caps vs us hs hc _ ih =>
   rw [AV.ren,zt]
   refine .tup us (by rw [List.length_map];exact hs) (fun j x e=>?_) (fun j x e=>?_)
   ·rw [List.getElem?_map] at e;cases hq : caps[j]? with | none=>simp [hq] at e | some y=>exact hc j y hq
   ·rw [List.getElem?_map] at e
    cases hq : caps[j]? with
    | none=>simp [hq] at e
    | some y=>simp only [hq,Option.map_some,Option.some.injEq] at e;subst e;exact ih j y hq
 | @im ks vs r ents clock us h0 h1 h2 h3 h4 _ ih =>
   rw [AV.ren,zt]
   refine .im us h0 (by rw [List.length_map];exact h1) h2 h3 (fun j q x e1 e2=>?_) (fun j x e=>?_)
   ·rw [List.getElem?_map] at e2;cases hq : vs[j]? with | none=>simp [hq] at e2 | some y=>exact h4 j q y e1 hq
   ·rw [List.getElem?_map] at e
    cases hq : vs[j]? with
    | none=>simp [hq] at e
    | some y=>simp only [hq,Option.map_some,Option.some.injEq] at e;subst e;exact ih j y hq
theorem y7 {n : Nat} {l : List AV} (hl : lowL n l = true) {j : Nat} {x : AV} (e : l[j]? = some x) : x.low n = true:=zo.1 hl x (List.mem_of_getElem? e)
theorem zN {l : List AV} {j : Nat} {x : AV} (e : l[j]? = some x) : (l.map (AV.ren ρ))[j]? = some (x.ren ρ):=by rw [List.getElem?_map,e];rfl
theorem Ren.unrep (R : Ren ρ β1 H1 β H) {r : AV} {v : Value} (x : Rep P h β H r v) : ∀ {a : AV},a.ren ρ = r -> a.low H1.length = true -> Rep P h β1 H1 a v:=by
 induction x with
 | bool b=>intro a e hl;cases a <;> simp only [AV.ren,AV.bool.injEq,reduceCtorEq] at e;subst e;exact .bool _
 | int k n=>intro a e hl;cases a <;> simp only [AV.ren,AV.int.injEq,reduceCtorEq] at e;obtain ⟨rfl,rfl⟩:=e;exact .int _ _
 | nilp=>intro a e hl;cases a <;> simp only [AV.ren,reduceCtorEq] at e;exact .nilp
 | @ptr i o b hi hb =>
   intro a e hl;cases a <;> simp only [AV.ren,AV.ptr.injEq,reduceCtorEq] at e
   rename_i i0 o0
   obtain ⟨rfl,rfl⟩:=e
   simp only [AV.low,decide_eq_true_eq] at hl
   refine .ptr (R.unlive hi hl) fun cs e=>?_
   rw [<- R.b i0 hl];exact hb _ (R.m _ _ e)
 | @pim b off c t fz cs us hone hb hc _ ih =>
   intro a e hl;cases a <;> simp only [AV.ren,AV.pim.injEq,reduceCtorEq] at e
   rename_i cs0
   rw [zt] at e;subst e
   refine .pim us (fun x hx=>?_) hb (fun j x e=>?_) (fun j x e=>?_)
   ·rw [<- AV.ren_one ρ];exact hone _ (List.mem_map.2 ⟨x,hx,rfl⟩)
   ·exact hc j _ (zN e)
   ·exact ih j _ (zN e) rfl (y7 hl e)
 | slnil=>intro a e hl;cases a <;> simp only [AV.ren,AV.sl.injEq,reduceCtorEq] at e;obtain ⟨rfl,e⟩:=e;rw [zt,List.map_eq_nil_iff] at e;subst e;exact .slnil
 | slemp=>intro a e hl;cases a <;> simp only [AV.ren,AV.sl.injEq,reduceCtorEq] at e;obtain ⟨rfl,e⟩:=e;rw [zt,List.map_eq_nil_iff] at e;subst e;exact .slemp
 | @sl b off cap c t fz els w n us hn hne hb hw hw0 hone hcap hc _ ih =>
   intro a e hl;cases a <;> simp only [AV.ren,AV.sl.injEq,reduceCtorEq] at e
   rename_i nl cs0
   obtain ⟨rfl,e⟩:=e
   rw [zt] at e;subst e
   rw [List.length_map] at hn hcap
   rw [y9] at hone hc
   refine .sl (w:=w) us hn (by simpa using hne) hb (fun e he=>?_) hw0 (fun x hx=>?_) hcap (fun j x e=>hc j _ (zN e)) (fun j x e=>?_)
   ·have:=hw _ (List.mem_map.2 ⟨e,he,rfl⟩);rwa [AV.ren_cells,List.length_map] at this
   ·rw [<- AV.ren_one ρ];exact hone _ (List.mem_map.2 ⟨x,hx,rfl⟩)
   ·exact ih j _ (by rw [y9];exact zN e) rfl (y8.1 hl x (List.mem_of_getElem? e))
 | se=>intro a e hl;cases a <;> simp only [AV.ren,reduceCtorEq] at e;exact .se
 | @gr i n v ho hi hv =>
   intro a e hl;cases a <;> simp only [AV.ren,AV.gr.injEq,reduceCtorEq] at e
   rename_i i0 o0
   obtain ⟨rfl,rfl⟩:=e
   simp only [AV.low,decide_eq_true_eq] at hl
   refine .gr ho (R.unlive hi hl) fun t nl els e=>?_
   rw [<- R.b i0 hl];have:=hv _ _ _ (R.m _ _ e);rwa [zt,List.length_map] at this
 | @gp i n e o b q hi hv =>
   intro a e hl;cases a <;> simp only [AV.ren,AV.gp.injEq,reduceCtorEq] at e
   rename_i i0 n0 e0 o0
   obtain ⟨rfl,rfl,rfl,rfl⟩:=e
   simp only [AV.low,decide_eq_true_eq] at hl
   refine .gp (R.unlive hi hl) fun t nl els e=>?_
   rw [<- R.b i0 hl];have:=hv _ _ _ (R.m _ _ e);rwa [zt,List.length_map] at this
 | nilm=>intro a e hl;cases a <;> simp only [AV.ren,reduceCtorEq] at e;exact .nilm
 | @mp i r hi hb =>
   intro a e hl;cases a <;> simp only [AV.ren,AV.mp.injEq,reduceCtorEq] at e
   subst e
   simp only [AV.low,decide_eq_true_eq] at hl
   refine .mp (R.unlive hi hl) fun x e hx=>?_
   rw [<- R.b _ hl];exact hb _ (R.m _ _ e) (by rw [Blk.ren_isMap];exact hx)
 | nilf=>intro a e hl;cases a <;> simp only [AV.ren,reduceCtorEq] at e;exact .nilf
 | @yld i b hi hb =>
   intro a e hl;cases a <;> simp only [AV.ren,AV.yld.injEq,reduceCtorEq] at e
   subst e
   simp only [AV.low,decide_eq_true_eq] at hl
   refine .yld (R.unlive hi hl) fun x e hx=>?_
   rw [<- R.b _ hl];exact hb _ (R.m _ _ e) (by rw [Blk.ren_rec];exact hx)
 | @fn f caps vs us hs hc _ ih =>
   intro a e hl;cases a <;> simp only [AV.ren,AV.fn.injEq,reduceCtorEq] at e
   rename_i f0 cs0
   obtain ⟨rfl,e⟩:=e
   rw [zt] at e;subst e
   exact .fn us (by rw [hs,List.length_map]) (fun j x e=>hc j _ (zN e)) (fun j x e=>ih j _ (zN e) rfl (y7 hl e))
 | @bf f caps vs us hs hc _ ih =>
   intro a e hl;cases a <;> simp only [AV.ren,AV.bf.injEq,reduceCtorEq] at e
   rename_i f0 cs0
   obtain ⟨rfl,e⟩:=e
   rw [zt] at e;subst e
   exact .bf us (by rw [hs,List.length_map]) (fun j x e=>hc j _ (zN e)) (fun j x e=>ih j _ (zN e) rfl (y7 hl e))
 | @os i m o n b q cap hi hn hc hg hz =>
   intro a e hl;cases a <;> simp only [AV.ren,AV.os.injEq,reduceCtorEq] at e
   rename_i i0 m0 o0 n0
   obtain ⟨rfl,rfl,rfl,rfl⟩:=e
   simp only [AV.low,decide_eq_true_eq] at hl
   refine .os (R.unlive hi hl) hn (fun cs e hne=>?_) (fun t nl els e=>?_) fun ho t nl els e hlen=>?_
   ·rw [<- R.b i0 hl];exact hc _ (R.m _ _ e) hne
   ·rw [<- R.b i0 hl];have:=hg _ _ _ (R.m _ _ e);rwa [zt,List.length_map] at this
   ·rw [<- R.b i0 hl];have:=hz ho _ _ _ (R.m _ _ e);rw [zt,List.length_map] at this;exact this hlen
 | @agg caps vs us hs hone hc _ ih =>
   intro a e hl;cases a <;> simp only [AV.ren,AV.agg.injEq,reduceCtorEq] at e
   rename_i cs0
   rw [zt] at e;subst e
   exact .agg us (by rw [hs,List.length_map]) (fun x hx=>by rw [<- AV.ren_one ρ];exact hone _ (List.mem_map.2 ⟨x,hx,rfl⟩)) (fun j x e=>hc j _ (zN e)) (fun j x e=>ih j _ (zN e) rfl (y7 hl e))
 | @tup caps vs us hs hc _ ih =>
   intro a e hl;cases a <;> simp only [AV.ren,AV.tup.injEq,reduceCtorEq] at e
   rename_i cs0
   rw [zt] at e;subst e
   exact .tup us (by rw [hs,List.length_map]) (fun j x e=>hc j _ (zN e)) (fun j x e=>ih j _ (zN e) rfl (y7 hl e))
 | @im ks vs r ents clock us h0 h1 h2 h3 h4 _ ih =>
   intro a e hl;cases a <;> simp only [AV.ren,AV.im.injEq,reduceCtorEq] at e
   rename_i ks0 cs0
   obtain ⟨rfl,e⟩:=e
   rw [zt] at e;subst e
   rw [List.length_map] at h1
   exact .im us h0 h1 h2 h3 (fun j q x e1 e2=>h4 j q _ e1 (zN e2)) (fun j x e=>ih j _ (zN e) rfl (y7 hl e))
theorem Ren.cells (R : Ren ρ β1 H1 β H) {cs : List AV} {c : Array Value} (k : zx P h β1 H1 cs c) : zx P h β H (cs.map (AV.ren ρ)) c:=by
 obtain ⟨us,a,b⟩:=k
 refine ⟨us,fun j x e=>?_,fun j x e=>?_⟩ <;> (rw [List.getElem?_map] at e;cases hq : cs[j]? with | none=>simp [hq] at e | some y=>?_)
 ·exact a j y hq
 ·simp only [hq,Option.map_some,Option.some.injEq] at e;subst e;exact R.rep (b j y hq)
theorem Ren.uncells (R : Ren ρ β1 H1 β H) {cs : List AV} {c : Array Value} (hl : lowL H1.length cs = true) (k : zx P h β H (cs.map (AV.ren ρ)) c) : zx P h β1 H1 cs c:=by
 obtain ⟨us,a,b⟩:=k
 exact ⟨us,fun j x e=>a j _ (zN e),fun j x e=>R.unrep (b j _ (zN e)) rfl (y7 hl e)⟩
theorem Ren.blk (R : Ren ρ β1 H1 β H) {heap : Array Obj} {i : Nat} (hi : i < H1.length) {x : Blk} (k : ky P h β1 H1 heap i x) : ky P h β H heap (ρ i) (x.ren ρ):=by
 have hb:=R.b i hi
 cases x with
 | dead=>trivial
 | free=>trivial
 | cells cs =>
   obtain ⟨b,c,t,h1,h2,h3,h4,h5⟩:=k
   rw [Blk.ren,zt]
   refine ⟨b,c,t,hb.trans h1,h2,by rw [h3,List.length_map],fun x hx=>?_,R.cells h5⟩
   obtain ⟨y,hy,rfl⟩:=List.mem_map.1 hx;rw [AV.ren_one];exact h4 y hy
 | grow t nl els =>
   rw [Blk.ren,zt]
   rcases k with ⟨h1,h2,h3⟩ | ⟨h1,h2,a,h3⟩ | ⟨h1,b,cap,c,h2,h3,h4,h5,h6,h7,h8,h9,h10,h11⟩
   ·exact .inl ⟨h1,by rw [h2];rfl,hb.trans h3⟩
   ·exact .inr (.inl ⟨h1,by rw [h2];rfl,a,hb.trans h3⟩)
   ·refine .inr (.inr ⟨h1,b,cap,c,by rw [hb,h2,List.length_map],h3,h4,by rw [List.length_map];exact h5,h6,h7,h8,fun e he=>?_,fun x hx=>?_,by rw [y9];exact R.cells h11⟩)
    ·obtain ⟨y,hy,rfl⟩:=List.mem_map.1 he;rw [AV.ren_cells,List.length_map];exact h9 y hy
    ·rw [y9] at hx;obtain ⟨y,hy,rfl⟩:=List.mem_map.1 hx;rw [AV.ren_one];exact h10 y hy
 | map es =>
   obtain ⟨r,ents,clock,h1,h2,h3,h4,us,h5⟩:=k
   refine ⟨r,ents,clock,hb.trans h1,h2,?_,by rw [h4,List.length_map],us,fun j q x e=>?_⟩
   ·rw [List.map_map];exact h3
   ·rw [List.getElem?_map] at e
    cases hq : es[j]? with
    | none=>simp [hq] at e
    | some y =>
      obtain ⟨a,b⟩:=y
      simp only [hq,Option.map_some,Option.some.injEq,Prod.mk.injEq] at e
      obtain ⟨rfl,rfl⟩:=e
      obtain ⟨h6,h7⟩:=h5 j _ _ hq
      exact ⟨R.rep h6,h7⟩
 | pm es =>
   obtain ⟨r,ents,clock,h1,h2,h3,h4,us,h5⟩:=k
   refine ⟨r,ents,clock,hb.trans h1,h2,?_,by rw [h4,List.length_map],us,fun j q x e=>?_⟩
   ·rw [List.map_map];exact h3
   ·rw [List.getElem?_map] at e
    cases hq : es[j]? with
    | none=>simp [hq] at e
    | some y =>
      obtain ⟨a,b⟩:=y
      simp only [hq,Option.map_some,Option.some.injEq,Prod.mk.injEq] at e
      obtain ⟨rfl,rfl⟩:=e
      obtain ⟨h6,h7⟩:=h5 j _ _ hq
      exact ⟨R.rep h6,h7⟩
 | raw o=>obtain ⟨b,h1,h2⟩:=k;exact ⟨b,hb.trans h1,h2⟩
 | lp st pend f tm ps x y n =>
   obtain ⟨b,dfr,tmps,h1,h2,h3,h4⟩:=k
   refine ⟨b,dfr,tmps,hb.trans h1,h2,h3,fun t r e=>?_⟩
   obtain ⟨⟨t',r'⟩,hm,he⟩:=List.mem_map.1 e
   simp only [Prod.mk.injEq] at he;obtain ⟨rfl,rfl⟩:=he
   obtain ⟨v,h5,h6⟩:=h4 _ _ hm
   exact ⟨v,h5,R.rep h6⟩
theorem Ren.unblk (R : Ren ρ β1 H1 β H) {heap : Array Obj} {i : Nat} (hi : i < H1.length) {x : Blk} (hl : x.low H1.length = true) (k : ky P h β H heap (ρ i) (x.ren ρ)) : ky P h β1 H1 heap i x:=by
 have hb:=R.b i hi
 cases x with
 | dead=>trivial
 | free=>trivial
 | cells cs =>
   rw [Blk.ren,zt] at k
   obtain ⟨b,c,t,h1,h2,h3,h4,h5⟩:=k
   exact ⟨b,c,t,hb.symm.trans h1,h2,by rw [h3,List.length_map],fun x hx=>by rw [<- AV.ren_one ρ];exact h4 _ (List.mem_map.2 ⟨x,hx,rfl⟩),R.uncells hl h5⟩
 | grow t nl els =>
   rw [Blk.ren,zt] at k
   rcases k with ⟨h1,h2,h3⟩ | ⟨h1,h2,a,h3⟩ | ⟨h1,b,cap,c,h2,h3,h4,h5,h6,h7,h8,h9,h10,h11⟩
   ·exact .inl ⟨h1,List.map_eq_nil_iff.1 h2,hb.symm.trans h3⟩
   ·exact .inr (.inl ⟨h1,List.map_eq_nil_iff.1 h2,a,hb.symm.trans h3⟩)
   ·rw [List.length_map] at h2 h5
    rw [y9] at h10 h11
    refine .inr (.inr ⟨h1,b,cap,c,hb.symm.trans h2,h3,h4,h5,h6,h7,h8,fun e he=>?_,fun x hx=>?_,R.uncells ?_ h11⟩)
    ·have:=h9 _ (List.mem_map.2 ⟨e,he,rfl⟩);rwa [AV.ren_cells,List.length_map] at this
    ·rw [<- AV.ren_one ρ];exact h10 _ (List.mem_map.2 ⟨x,hx,rfl⟩)
    ·exact zo.2 (y8.1 hl)
 | map es =>
   obtain ⟨r,ents,clock,h1,h2,h3,h4,us,h5⟩:=k
   refine ⟨r,ents,clock,hb.symm.trans h1,h2,?_,by rw [h4,List.length_map],us,fun j q x e=>?_⟩
   ·rw [List.map_map] at h3;exact h3
   ·obtain ⟨h6,h7⟩:=h5 j q (x.ren ρ) (by rw [List.getElem?_map,e];rfl)
    refine ⟨R.unrep h6 rfl ?_,h7⟩
    exact zo.1 hl x (List.mem_map.2 ⟨(q,x),List.mem_of_getElem? e,rfl⟩)
 | pm es =>
   obtain ⟨r,ents,clock,h1,h2,h3,h4,us,h5⟩:=k
   refine ⟨r,ents,clock,hb.symm.trans h1,h2,?_,by rw [h4,List.length_map],us,fun j q x e=>?_⟩
   ·rw [List.map_map] at h3;exact h3
   ·obtain ⟨h6,h7⟩:=h5 j q (x.ren ρ) (by rw [List.getElem?_map,e];rfl)
    refine ⟨R.unrep h6 rfl ?_,h7⟩
    exact zo.1 hl x (List.mem_map.2 ⟨(q,x),List.mem_of_getElem? e,rfl⟩)
 | raw o=>obtain ⟨b,h1,h2⟩:=k;exact ⟨b,hb.symm.trans h1,h2⟩
 | lp st pend f tm ps x y n =>
   obtain ⟨b,dfr,tmps,h1,h2,h3,h4⟩:=k
   refine ⟨b,dfr,tmps,hb.symm.trans h1,h2,h3,fun t r e=>?_⟩
   obtain ⟨v,h5,h6⟩:=h4 t (r.ren ρ) (List.mem_map.2 ⟨(t,r),e,rfl⟩)
   exact ⟨v,h5,R.unrep h6 rfl (zo.1 hl r (List.mem_map.2 ⟨(t,r),e,rfl⟩))⟩
theorem Ren.blkOf (R : Ren ρ β1 H1 β H) {i : Nat} (hi : i < H1.length) : GA.blkOf β H (ρ i) = GA.blkOf β1 H1 i:=by
 have h1:=R.m i _ (List.getElem?_eq_getElem hi)
 unfold GA.blkOf
 rw [h1,List.getElem?_eq_getElem hi,R.b i hi]
 generalize H1[i] = x
 cases x <;> rfl
theorem Ren.to {x x' : Blk} {β' β1' : Nat -> Value} {i : Nat} (h1 : β (ρ i) = β1 i) (h2 : β' (ρ i) = β1' i) (k : x.to β1 β1' i x') : (x.ren ρ).to β β' (ρ i) (x'.ren ρ):=by
 cases x with
 | dead=>simp only [Blk.to] at k;subst k;rfl
 | free=>trivial
 | cells cs =>
   rcases k with rfl | ⟨cs',rfl,hb⟩
   ·exact .inl rfl
   ·exact .inr ⟨_,rfl,by rw [h1,h2];exact hb⟩
 | grow t nl els =>
   rcases k with rfl | ⟨nl',els',rfl,hl,hb⟩
   ·exact .inl rfl
   ·exact .inr ⟨_,_,rfl,by simp only [zt,List.length_map];exact hl,fun e=>by rw [h1,h2];simp only [zt,List.length_map] at e;exact hb e⟩
 | map es =>
   rcases k with rfl | ⟨cs',rfl,hb⟩
   ·exact .inl rfl
   ·exact .inr ⟨_,rfl,by rw [h1,h2];exact hb⟩
 | pm es =>
   rcases k with rfl | ⟨cs',rfl,hb⟩
   ·exact .inl rfl
   ·exact .inr ⟨_,rfl,by rw [h1,h2];exact hb⟩
 | raw o =>
   rcases k with rfl | ⟨cs',rfl,hb⟩
   ·exact .inl rfl
   ·exact .inr ⟨_,rfl,by rw [h1,h2];exact hb⟩
 | lp st pend f tm ps x y n =>
   rcases k with rfl | ⟨st',pend',rfl,hb⟩
   ·exact .inl rfl
   ·exact .inr ⟨_,_,rfl,by rw [h1,h2];exact hb⟩
theorem Ren.sr (R : Ren ρ β1 H1 β H) (s : SR P E h β H w) (inj : ∀ i j,i < H1.length -> j < H1.length -> ρ i = ρ j -> i = j) (lo : ∀ x ∈ H1,x.low H1.length = true) : SR P E h β1 H1 w:=by
 have hlt : ∀ {i x},GA.blkOf β1 H1 i = some x -> i < H1.length:=fun e=>(z8 e).1
 refine ⟨s.env,s.imm,fun i x e=>?_,fun i j x e1 e2=>?_,fun i x e=>?_,s.frm,fun i x e=>?_⟩
 ·have hi:=(List.getElem?_eq_some_iff.1 e).1
  exact R.unblk hi (lo x (List.mem_of_getElem? e)) (s.blk _ _ (R.m i x e))
 ·exact inj i j (hlt e1) (hlt e2) (s.own _ _ x (by rw [R.blkOf (hlt e1)];exact e1) (by rw [R.blkOf (hlt e2)];exact e2))
 ·exact s.fresh (ρ i) x (by rw [R.blkOf (hlt e)];exact e)
 ·exact s.fro (ρ i) x (by rw [R.blkOf (hlt e)];exact e)
noncomputable def othE (E : Env) (β : Nat -> Value) (H : List Blk) (w : World) (im : Nat -> Prop) : Env:=by
 classical exact ⟨E.b,fun b=>if ∃ j,¬ im j /\ GA.blkOf β H j = some b then w.heap[b]? else E.fr b,E.en⟩
theorem w9 {im : Nat -> Prop} {b j : Nat} (hj : ¬ im j) (hb : GA.blkOf β H j = some b) : (othE E β H w im).fr b = w.heap[b]?:=by
 simp only [othE];rw [if_pos ⟨j,hj,hb⟩]
theorem vv {im : Nat -> Prop} {b : Nat} (hn : ∀ j,¬ im j -> GA.blkOf β H j ≠ some b) : (othE E β H w im).fr b = E.fr b:=by
 simp only [othE];rw [if_neg (fun ⟨j,h1,h2⟩=>hn j h1 h2)]
theorem Ren.srE (R : Ren ρ β1 H1 β H) (s : SR P E h β H w) (inj : ∀ i j,i < H1.length -> j < H1.length -> ρ i = ρ j -> i = j) (lo : ∀ x ∈ H1,x.low H1.length = true) :
  SR P (othE E β H w fun j=>∃ i,i < H1.length /\ ρ i = j) h β1 H1 w:=by
 have s1:=R.sr s inj lo
 refine ⟨s1.env,s1.imm,s1.blk,s1.own,s1.fresh,fun b o e=>?_,fun i x e=>?_⟩
 ·by_cases hh : ∃ j,¬ (∃ i,i < H1.length /\ ρ i = j) /\ GA.blkOf β H j = some b
  ·obtain ⟨j,h1,h2⟩:=hh
   rw [w9 h1 h2] at e
   exact ⟨e,s.fresh _ _ h2⟩
  ·rw [vv (fun j h1 h2=>hh ⟨j,h1,h2⟩)] at e;exact s.frm b o e
 ·have hi:=(z8 e).1
  have hb:=R.blkOf hi
  rw [vv]
  ·exact s.fro (ρ i) x (by rw [hb];exact e)
  ·intro j h1 h2
   exact h1 ⟨i,hi,s.own _ _ x (by rw [hb];exact e) h2⟩
theorem zE.frame {f : FuncId} {rs1 : List AV} {k1 k : AV -> List Blk -> Prop} (x : zE P f rs1 H1 k1)
  (inj : ∀ i j,i < H1.length -> j < H1.length -> ρ i = ρ j -> i = j) (hm : ∀ (i : Nat) x1,H1[i]? = some x1 -> H[ρ i]? = some (x1.ren ρ))
  (lo : ∀ x ∈ H1,x.low H1.length = true) (lor : lowL H1.length rs1 = true)
  (hk : ∀ r1 H1',k1 r1 H1' -> H1'.length = H1.length /\ ∃ H',H'.length = H.length /\ (∀ (i : Nat) x1,H1'[i]? = some x1 -> H'[ρ i]? = some (x1.ren ρ)) /\ (∀ j,(∀ i,i < H1.length -> ρ i ≠ j) -> H'[j]? = H[j]?) /\ k (r1.ren ρ) H') :
  zE P f (rs1.map (AV.ren ρ)) H k:=by
 refine ⟨x.1,fun E h β w vs s hr=>?_⟩
 have R : Ren ρ (fun i=>β (ρ i)) H1 β H:=⟨hm,fun _ _=>rfl⟩
 have s1:=R.srE s inj lo
 have hr1 : RepL P h (fun i=>β (ρ i)) H1 rs1 vs:=⟨by rw [hr.1,List.length_map],fun j r e=>by
  obtain ⟨v,h1,h2⟩:=hr.2 j _ (zN e)
  exact ⟨v,h1,R.unrep h2 rfl (y7 lor e)⟩⟩
 refine (x.2 _ h _ w vs s1 hr1).mono ?_
 rintro e w' ⟨r1,H1',h',β1',v,rfl,q,X,s',hv⟩
 obtain ⟨hlen,H',hlen',hm',ho,hk'⟩:=hk r1 H1' q
 classical
 let β' : Nat -> Value:=fun j=>if hj : ∃ i,i < H1.length /\ ρ i = j then β1' (Classical.choose hj) else β j
 have hβ1 : ∀ i,i < H1.length -> β' (ρ i) = β1' i:=by
  intro i hi
  have hj : ∃ i',i' < H1.length /\ ρ i' = ρ i:=⟨i,hi,rfl⟩
  simp only [β',dif_pos hj]
  rw [inj _ _ (Classical.choose_spec hj).1 hi (Classical.choose_spec hj).2]
 have hβ2 : ∀ j,(∀ i,i < H1.length -> ρ i ≠ j) -> β' j = β j:=by
  intro j hj
  have hn : ¬ ∃ i,i < H1.length /\ ρ i = j:=fun ⟨i,h1,h2⟩=>hj i h1 h2
  simp only [β',dif_neg hn]
 have R' : Ren ρ β1' H1' β' H':=⟨hm',fun i hi=>hβ1 i (by omega)⟩
 have im : ∀ j,(∃ i,i < H1.length /\ ρ i = j) \/ ∀ i,i < H1.length -> ρ i ≠ j:=by
  intro j
  by_cases hj : ∃ i,i < H1.length /\ ρ i = j
  ·exact .inl hj
  ·exact .inr fun i hi e=>hj ⟨i,hi,e⟩
 have X' : Ext h β H h' β' H':=by
  refine ⟨X.imm,by omega,fun j y y' e e'=>?_⟩
  rcases im j with ⟨i,hi,rfl⟩ | hj
  ·have h1 : H1[i]? = some H1[i]:=List.getElem?_eq_getElem hi
   have h2 : H1'[i]? = some (H1'[i]'(by omega)):=List.getElem?_eq_getElem (by omega)
   rw [hm i _ h1] at e;cases e
   rw [hm' i _ h2] at e';cases e'
   exact Ren.to (β1:=fun i=>β (ρ i)) rfl (hβ1 i hi) (X.to i _ _ h1 h2)
  ·rw [ho j hj,e] at e';cases e'
   have:=Blk.to_refl β j y
   cases y with
   | dead=>rfl
   | free=>trivial
   | cells cs=>exact .inr ⟨_,rfl,hβ2 j hj⟩
   | grow t nl els=>exact .inr ⟨_,_,rfl,Nat.le_refl _,fun _=>hβ2 j hj⟩
   | map es=>exact .inr ⟨_,rfl,hβ2 j hj⟩
   | pm es=>exact .inr ⟨_,rfl,hβ2 j hj⟩
   | raw o=>exact .inr ⟨_,rfl,hβ2 j hj⟩
   | lp st pend f tm ps x y n=>exact .inr ⟨_,_,rfl,hβ2 j hj⟩
 have hb1 : ∀ i,i < H1.length -> GA.blkOf β' H' (ρ i) = GA.blkOf β1' H1' i:=fun i hi=>R'.blkOf (by omega)
 have hb2 : ∀ j,(∀ i,i < H1.length -> ρ i ≠ j) -> GA.blkOf β' H' j = GA.blkOf β H j:=fun j hj=>yq (hβ2 j hj) (ho j hj)
 have hsome : ∀ j b,GA.blkOf β H j = some b -> ∃ o,w.heap[b]? = some o:=fun j b e=>⟨_,Array.getElem?_eq_getElem (s.lt e)⟩
 have hfr : ∀ j b o,(∀ i,i < H1.length -> ρ i ≠ j) -> GA.blkOf β H j = some b -> w.heap[b]? = some o -> w'.heap[b]? = some o /\ h' b = none:=by
  intro j b o hj e eo
  refine s'.frm b o ?_
  rw [w9 (j:=j) (fun ⟨i,h1,h2⟩=>hj i h1 h2) e];exact eo
 have hE : ∀ b o,E.fr b = some o -> (othE E β H w fun j=>∃ i,i < H1.length /\ ρ i = j).fr b = some o:=by
  intro b o e
  rw [vv]
  ·exact e
  ·intro j _ h2;rw [s.fro j b h2] at e;cases e
 refine ⟨r1.ren ρ,H',h',β',v,rfl,hk',X',?_,R'.rep hv⟩
 refine ⟨s'.env,s'.imm,fun j y e=>?_,fun i j b e1 e2=>?_,fun j b e=>?_,fun b o e=>s'.frm b o (hE b o e),fun j b e=>?_⟩
 ·rcases im j with ⟨i,hi,rfl⟩ | hj
  ·have h2 : H1'[i]? = some (H1'[i]'(by omega)):=List.getElem?_eq_getElem (by omega)
   rw [hm' i _ h2] at e;cases e
   exact R'.blk (by omega) (s'.blk i _ h2)
  ·rw [ho j hj] at e
   refine (s.blk j y e).keep X' (hβ2 j hj) fun hd hd' b hb=>?_
   have hbo : GA.blkOf β H j = some b:=by unfold GA.blkOf;rw [e];cases y <;> first|exact absurd rfl hd|exact absurd rfl hd'|exact hb
   obtain ⟨o,ho'⟩:=hsome j b hbo
   rw [ho',(hfr j b o hj hbo ho').1]
 ·rcases im i with ⟨i0,hi,rfl⟩ | hi <;> rcases im j with ⟨j0,hj,rfl⟩ | hj
  ·rw [hb1 i0 hi] at e1;rw [hb1 j0 hj] at e2
   rw [s'.own _ _ b e1 e2]
  ·rw [hb1 i0 hi] at e1;rw [hb2 j hj] at e2
   obtain ⟨o,ho'⟩:=hsome j b e2
   have h3:=s'.fro _ _ e1
   rw [w9 (j:=j) (fun ⟨i,h1,h2⟩=>hj i h1 h2) e2,ho'] at h3;cases h3
  ·rw [hb2 i hi] at e1;rw [hb1 j0 hj] at e2
   obtain ⟨o,ho'⟩:=hsome i b e1
   have h3:=s'.fro _ _ e2
   rw [w9 (j:=i) (fun ⟨i',h1,h2⟩=>hi i' h1 h2) e1,ho'] at h3;cases h3
  ·rw [hb2 i hi] at e1;rw [hb2 j hj] at e2
   exact s.own _ _ b e1 e2
 ·rcases im j with ⟨i,hi,rfl⟩ | hj
  ·rw [hb1 i hi] at e;exact s'.fresh _ _ e
  ·rw [hb2 j hj] at e
   obtain ⟨o,ho'⟩:=hsome j b e
   exact (hfr j b o hj e ho').2
 ·rcases im j with ⟨i,hi,rfl⟩ | hj
  ·rw [hb1 i hi] at e
   have h3:=s'.fro _ _ e
   cases hx : E.fr b with
   | none=>rfl
   | some o=>rw [hE b o hx] at h3;cases h3
  ·rw [hb2 j hj] at e;exact s.fro _ _ e
end
end GA
end
section
namespace GA
open Go Go.RowKit
section
variable {P : Program} {T : Tab} {N : Nat} {ρ : Option Nat} {own : List Nat} {D : List Nat} {σ : St} {H : List Blk} {Q : Post} {E : Env} {h : Nat -> Option Obj} {β : Nat -> Value} {w : World}
structure RenS (f : Nat -> Nat) (base : Nat) (H1 : List Blk) (σ1 : St) (H : List Blk) (σ : St) : Prop where
 inj : ∀ i j,i < H1.length -> j < H1.length -> f i = f j -> i = j
 fix : ∀ i,i < base -> f i = i
 len : base <= H1.length
 hm : ∀ (i : Nat) x1,H1[i]? = some x1 -> H[f i]? = some (x1.ren f)
 lowb : ∀ (i : Nat) x1,i < base -> H1[i]? = some x1 -> x1.ren f = x1
 low : ∀ x ∈ H1,x.low H1.length = true
 st : ∀ t r,σ1 t = some r -> σ t = some (r.ren f) /\ r.low H1.length = true
def rnF (l : List Nat) (i : Nat) : Nat:=match lget l i with | some j=>j | none=>i
def XBlkR (f : Nat -> Nat) (base : Nat) (x : Blk) (o : Option Blk) : Prop:=(o = some x /\ x.low base = true) \/ o = some (x.ren f)
def XValR (f : Nat -> Nat) (base : Nat) (x : AV) (o : Option AV) : Prop:=(o = some x /\ x.low base = true) \/ o = some (x.ren f)
def gT (f : Nat -> Nat) (base : Nat) (H : List Blk) : Nat -> List Blk -> Prop
 | _,[]=>True
 | i,x :: l=>XBlkR f base x (lget H (f i)) /\ gT f base H (i + 1) l
def SubR (f : Nat -> Nat) (base : Nat) (n : Nat) (σ : St) : List (Nat × AV) -> Prop
 | []=>True
 | (t,r) :: l=>(XValR f base r (σ t) /\ r.low n = true) /\ SubR f base n σ l
structure XAgainR {G : Type} (I : G -> Prop) (L : G -> List (Nat × AV)) (hp : G -> List Blk) (μ : G -> Nat) (base : Nat) (g : G) (D' : List Nat) (σ' : St) (H' : List Blk) : Prop where
 d : D' = []
 o : ∃ g' l,I g' /\ μ g' < μ g /\ (l.length = (hp g').length /\ l.Nodup /\ (∀ i,i < base -> lget l i = some i) /\ base <= l.length) /\ (∀ x ∈ hp g',x.low (hp g').length = true) /\ (∀ (i : Nat) x,i < base -> lget (hp g') i = some x -> x.low base = true) /\
  gT (rnF l) base H' 0 (hp g') /\ SubR (rnF l) base (hp g').length σ' (L g')
theorem ga {f : Nat -> Nat} {n : Nat} {α : Type} (h : ∀ i,i < n -> f i = i) {es : List (α × AV)} (hl : lowL n (es.map (·.2)) = true) : (es.map fun p=>(p.1,p.2.ren f)) = es:=by
 have : ∀ p ∈ es,(fun p : α × AV=>(p.1,p.2.ren f)) p = id p:=fun p hp=>by
  have:=zo.1 hl p.2 (List.mem_map.2 ⟨p,hp,rfl⟩)
  simp only [id,AV.ren_low h this]
 rw [List.map_congr_left this,List.map_id]
theorem Blk.ren_low {f : Nat -> Nat} {n : Nat} (h : ∀ i,i < n -> f i = i) {x : Blk} (hl : x.low n = true) : x.ren f = x:=by
 cases x with
 | cells cs=>simp only [Blk.ren];rw [qV h hl]
 | grow t nl els=>simp only [Blk.ren];rw [qV h hl]
 | map es=>simp only [Blk.ren];rw [ga h hl]
 | pm es=>simp only [Blk.ren];rw [ga h hl]
 | lp st pend f tm ps x y n=>simp only [Blk.ren];rw [ga h hl]
 | _=>rfl
theorem gT.get {f : Nat -> Nat} {base : Nat} {H : List Blk} : ∀ {l : List Blk} {i : Nat},gT f base H i l -> ∀ (j : Nat) x,l[j]? = some x -> XBlkR f base x (lget H (f (i + j)))
 | [],_,_,j,x,e=>by simp at e
 | y :: l,i,h,0,x,e=>by simp at e;subst e;exact h.1
 | y :: l,i,h,j + 1,x,e=>by
   have:=gT.get h.2 j x (by simpa using e)
   rwa [Nat.add_right_comm] at this
theorem SubR.get {f : Nat -> Nat} {base n : Nat} {σ : St} : ∀ {l : List (Nat × AV)},SubR f base n σ l -> ∀ t r,stX l t = some r -> XValR f base r (σ t) /\ r.low n = true
 | [],_,t,r,e=>by cases e
 | (u,x) :: l,h,t,r,e=>by
   simp only [stX,yl,upd] at e
   split at e
   ·rename_i hh;cases e;subst hh;exact h.1
   ·exact SubR.get h.2 t r e
theorem XAgainR.go {G : Type} {I : G -> Prop} {L : G -> List (Nat × AV)} {hp : G -> List Blk} {μ : G -> Nat} {base : Nat} {g : G} (g' : G) (l : List Nat) (h1 : I g') (h2 : μ g' < μ g) (h3 : l.length = (hp g').length /\ l.Nodup /\ (∀ i,i < base -> lget l i = some i) /\ base <= l.length)
  (h4 : ∀ x ∈ hp g',x.low (hp g').length = true) (h5 : ∀ (i : Nat) x,i < base -> lget (hp g') i = some x -> x.low base = true) (h6 : gT (rnF l) base H 0 (hp g')) (h7 : SubR (rnF l) base (hp g').length σ (L g')) : XAgainR I L hp μ base g [] σ H:=
 ⟨rfl,g',l,h1,h2,h3,h4,h5,h6,h7⟩
theorem opLoad_ex {t : TypeId} {p : AV} {k : AV -> Prop} (x : yn P t H p k) : ∃ r,k r /\ ∀ k' : AV -> Prop,k' r -> yn P t H p k':=by
 unfold yn at x
 obtain ⟨ti,h1,x⟩:=zb x
 obtain ⟨cs,h2,x⟩:=zb x
 split at x
 ·rename_i e
  exact ⟨_,x.2,fun k' hk=>by unfold yn;rw [h1,zk,h2,zk,if_pos e];exact ⟨x.1,hk⟩⟩
 ·rename_i e
  obtain ⟨c,h3,x⟩:=zb x
  exact ⟨c,x,fun k' hk=>by unfold yn;rw [h1,zk,h2,zk,if_neg e,h3,zk];exact hk⟩
theorem zay : ∀ {l : List ResultVar} {k : List AV -> Prop},resA P σ H l k -> ∃ rs,k rs /\ ∀ k' : List AV -> Prop,k' rs -> resA P σ H l k'
 | [],k,x=>⟨[],x,fun _ h=>h⟩
 | .tmp t :: l,k,x=>by
   obtain ⟨r,h1,x⟩:=zb x
   obtain ⟨rs,h2,h3⟩:=zay x
   exact ⟨r :: rs,h2,fun k' h=>by simp only [resA];rw [h1,zk];exact h3 (fun rs=>k' (r :: rs)) h⟩
 | .cell a t :: l,k,x=>by
   obtain ⟨p,h1,x⟩:=zb x
   obtain ⟨r,x,h4⟩:=opLoad_ex x
   obtain ⟨rs,h2,h3⟩:=zay x
   exact ⟨r :: rs,h2,fun k' h=>by simp only [resA];rw [h1,zk];exact h4 _ (h3 (fun rs=>k' (r :: rs)) h)⟩
structure XCut (n : Nat) (D : List Nat) (H : List Blk) (r : AV) (k : AV -> List Blk -> Prop) : Prop where
 o : ∃ H1 l,H = H1 ++ l /\ H1.length = n /\ (∀ x ∈ H1,x.low n = true) /\ D.Nodup /\ (∀ i ∈ D,n <= i /\ H[i]? = some (.raw (.deferred (some [])))) /\ r.low n = true /\ k r H1
def XFk (T : Tab) (res : List ResultVar) (n : Nat) (k : AV -> List Blk -> Prop) : Post:=fun e D σ H =>
 match e with
 | .normal | .ret=>xRes T σ H res fun rs=>XCut n D H (pack rs) k
 | _=>False
theorem zE.bodyK {f : FuncId} {fn : Func} {c : Code} {rs : List AV} {res : List ResultVar} {k : AV -> List Blk -> Prop} (ok : zr P T) (own : List Nat) (hf : P.funcs[f]? = some fn) (hb : fn.body = some c) (hn : (fn.name == "runtime.NumGoroutine") = false)
  (hN : fn.ntmps = N) (hr : fn.results = res.toArray) (hl : rs.length <= N) (x : XRun P T N none own c (XFk T res H.length k) [] (argX rs) H) : zE P f rs H k:=by
 subst hN
 refine zE.of_body hf hb hn hl ?_
 rw [hr,<- zac]
 refine (XRun.sound ok x).mono fun e D σ H' q=>?_
 have go : xRes T σ H' res (fun rs=>XCut H.length D H' (pack rs) k) -> ∃ H1 l,H' = H1 ++ l /\ H.length <= H1.length /\ (∀ x ∈ H1,x ∈ H \/ x.low H1.length = true) /\ D.Nodup /\
  (∀ i ∈ D,H1.length <= i /\ H'[i]? = some (.raw (.deferred (some [])))) /\ resA P σ H' res fun rs=>(pack rs).low H1.length = true /\ k (pack rs) H1:=by
  intro x
  obtain ⟨rs,⟨H1,l,h1,h2,h3,h4,h5,h6,h7⟩,hx⟩:=zay (jn ok x)
  exact ⟨H1,l,h1,by omega,fun x hx=>.inr (by rw [h2];exact h3 x hx),h4,by rw [h2];exact h5,hx _ ⟨by rw [h2];exact h6,h7⟩⟩
 cases e <;> first|exact ⟨.inl rfl,go q⟩|exact ⟨.inr rfl,go q⟩|exact q.elim
theorem XCut.mk' {n : Nat} {H : List Blk} {r : AV} {k : AV -> List Blk -> Prop} (H1 l : List Blk) (h1 : H1 ++ l = H) (h2 : H1.length = n) (h3 : ∀ x ∈ H1,x.low n = true) (h4 : r.low n = true) (h5 : k r H1) : XCut n [] H r k:=
 ⟨H1,l,h1.symm,h2,h3,by simp,by simp,h4,h5⟩
end
end GA
end
section
namespace GA
open Go Go.RowKit
def hsV (H : List Blk) (l : List (List Blk -> List Blk)) (fl : List Bool) : List Blk:=match lget l (fl.countP id) with | some f=>f H | none=>H
def look (n : Int) : List (Int × Nat) -> Option Nat
 | []=>none
 | (k,u) :: l=>if k = n then some u else look n l
end GA
end
section
namespace GA
open Go Go.RowKit
section
variable {P : Program} {T : Tab} {N : Nat} {ρ : Option Nat} {own : List Nat} {D : List Nat} {σ : St} {H : List Blk} {Q : Post} {E : Env} {h : Nat -> Option Obj} {β : Nat -> Value} {w : World} {a : Act}
theorem DfL.mem {en : Nat -> Option Obj} {D : List Nat} {ds : List Deferred} (d : DfL P h β H en D ds) {b : Nat} (hb : ({ target:=.collected b,args:=#[] } : Deferred) ∈ ds) : (∃ j ∈ D,Rep P h β H (.yld j) (.func (.yield b) #[] #[])) \/ h b = some (.deferred (some [])):=by
 induction d with
 | nil=>simp at hb
 | @own i b' D ds r t ih =>
   rcases List.mem_cons.1 hb with e | e
   ·cases e;exact .inl ⟨i,List.mem_cons_self,r⟩
   ·rcases ih e with ⟨j,h1,h2⟩ | h1
    ·exact .inl ⟨j,List.mem_cons_of_mem _ h1,h2⟩
    ·exact .inr h1
 | @lost b' D ds h1 he nd t ih =>
   rcases List.mem_cons.1 hb with e | e
   ·cases e;exact .inr h1
   ·exact ih e
theorem DfL.lose {en : Nat -> Option Obj} {h' : Nat -> Option Obj} {H' : List Blk} {i b : Nat} {D0 : List Nat} {ds : List Deferred} (s : SR P E h β H w) (X : Ext h β H h' β H') (hbo : blkOf β H i = some b) (hb' : h' b = some (.deferred (some []))) (he : en b = none) (hm : h b = none) (hi : H[i]? = some (.raw (.deferred (some []))))
  (d : DfL P h β H en D0 ds) : ∀ {D : List Nat},D0 = i :: D -> i ∉ D -> (∀ j ∈ D,H[j]? = some (.raw (.deferred (some [])))) -> DfL P h' β H' en D ds:=by
 induction d with
 | nil=>intro D e;cases e
 | @own i' b' D' ds r t ih =>
   intro D e hni hD
   cases e
   have hbb : b' = b:=by
    cases r with
    | yld hlv hb =>
      have hbi:=hb _ hi rfl
      have : blkOf β H i = some b':=by simp only [blkOf,hi,hbi];rfl
      rw [hbo] at this;cases this;rfl
   subst hbb
   refine .lost hb' he (fun b2 hb2=>?_) (t.ext X)
   rintro rfl
   rcases t.mem hb2 with ⟨j,h1,h2⟩ | h1
   ·cases h2 with
    | yld hlv hb =>
      have hj:=hD j h1
      have hbj:=hb _ hj rfl
      have : blkOf β H j = some b2:=by simp only [blkOf,hj,hbj];rfl
      exact hni (s.own _ _ _ hbo this ▸ h1)
   ·rw [hm] at h1;cases h1
 | @lost b' D' ds h1 he' nd t ih =>
   intro D e hni hD
   exact .lost (X.imm _ _ h1) he' nd (ih e hni hD)
theorem yC.lose : ∀ {D : List Nat} {h : Nat -> Option Obj} {H : List Blk},yC P E N h β D σ H a w -> D.Nodup -> (∀ i ∈ D,H[i]? = some (.raw (.deferred (some [])))) ->
  ∃ h' H',yC P E N h' β [] σ H' a w /\ Ext h β H h' β H' /\ H'.length = H.length /\ ∀ j,j ∉ D -> H'[j]? = H[j]?
 | [],h,H,s,_,_=>⟨h,H,s,Ext.refl _ _ _,rfl,fun _ _=>rfl⟩
 | i :: D,h,H,s,hnd,hD=>by
   have hi:=hD i List.mem_cons_self
   obtain ⟨b,hb1,hb2⟩:=s.sr.blk i _ hi
   have hbo : blkOf β H i = some b:=by simp only [blkOf,hi,hb1];rfl
   have hm:=s.sr.fresh _ _ hbo
   have he : E.en b = none:=by
    cases hx : E.en b with
    | none=>rfl
    | some o=>rw [s.df.en b o hx] at hm;cases hm
   obtain ⟨h1,s1,X1,hf⟩:=s.sr.freeze hi
   have hni:=(List.nodup_cons.1 hnd).1
   have hDs : ∀ j ∈ D,H[j]? = some (.raw (.deferred (some []))):=fun j hj=>hD j (List.mem_cons_of_mem _ hj)
   have d1:=DfL.lose s.sr X1 hbo (hf b _ hbo hb2) he hm hi s.df.l rfl hni hDs
   have s2 : yC P E N h1 β D σ (H.set i .dead) a w:=⟨s1,s.fits.ext X1,s.size,⟨(s.df.ext X1).en,d1⟩⟩
   obtain ⟨h',H',s3,X3,hl,ho⟩:=yC.lose s2 (List.nodup_cons.1 hnd).2 (fun j hj=>by rw [List.getElem?_set_ne (show i ≠ j from fun e=>hni (by rw [e];exact hj))];exact hDs j hj)
   refine ⟨h',H',s3,X1.trans X3,by rw [hl];simp,fun j hj=>?_⟩
   rw [ho j (fun h=>hj (List.mem_cons_of_mem _ h)),List.getElem?_set_ne (show i ≠ j from fun e=>hj (by rw [<- e];exact List.mem_cons_self))]
theorem Walk.norm {id : Nat} {ops : Array Oper} (ok : zr P T) (own : List Nat) (L : List (Nat × AV)) (hs : SubX L σ) (x : XReg P T N own ops.toList ops.toList (stX L) H (Q .normal D)) : Walk P N ρ (.region id ops false) Q D σ H:=
 ⟨AWp.weaken (yz hs) (AWp.regionX ok x)⟩
structure MarksOk (D : List Nat) (H : List Blk) (f : Nat -> Nat) (n : Nat) : Prop where
 nd : D.Nodup
 raw : ∀ i ∈ D,H[i]? = some (.raw (.deferred (some [])))
 out : ∀ i,i < n -> f i ∉ D
theorem AWp.loopM {c : Code} {G : Type} (st : G -> St) (hp : G -> List Blk) (μ : G -> Nat) (g0 : G) (hσ : ∀ t r,st g0 t = some r -> σ t = some r) (hH : hp g0 = H) (hD : D = [])
  (round : ∀ g,AWp P N ρ c (kv (fun D' σ' H'=>∃ g' f,μ g' < μ g /\ MarksOk D' H' f (hp g').length /\ RenS f H.length (hp g') (st g') H' σ') Q) D (st g) (hp g)) : AWp P N ρ (.loop c) Q D σ H:=by
 intro E h β a w s
 subst hH;subst hD
 let I : G -> Act -> World -> Prop:=fun g a w=>∃ h' β',Ext h β (hp g0) h' β' (hp g) /\ yC P E N h' β' [] (st g) (hp g) a w
 have least : ∀ a w,(∃ g,I g a w) -> ∃ n,(∃ g,I g a w /\ μ g = n) /\ ∀ m,m < n -> ¬ ∃ g,I g a w /\ μ g = m:=
  fun a w ⟨g,hg⟩=>jl ⟨μ g,g,hg,rfl⟩
 classical
 let M : Act -> World -> Nat:=fun a w=>if e : ∃ g,I g a w then Classical.choose (least a w e) else 0
 have hM : ∀ a w (e : ∃ g,I g a w),(∃ g,I g a w /\ μ g = M a w) /\ ∀ g,I g a w -> M a w <= μ g:=by
  intro a w e
  have hc:=Classical.choose_spec (least a w e)
  have hm : M a w = Classical.choose (least a w e):=by simp only [M,dif_pos e]
  rw [hm]
  refine ⟨hc.1,fun g hg=>?_⟩
  rcases Nat.lt_or_ge (μ g) (Classical.choose (least a w e)) with hlt | hge
  ·exact absurd ⟨g,hg,rfl⟩ (hc.2 _ hlt)
  ·exact hge
 refine wpIn_loop (fun a w=>∃ g,I g a w) M ⟨g0,h,β,Ext.refl _ _ _,s.sr,fun t r e=>s.fits t r (hσ t r e),s.size,s.df⟩ ?_
 intro a' w' hI
 obtain ⟨⟨g,hg,hmu⟩,_⟩:=hM a' w' hI
 obtain ⟨h',β',X,s'⟩:=hg
 refine wpIn_mono (round g E h' β' a' w' s') ?_
 rintro e a'' w'' ⟨D'',σ'',H0',h0',β'',q,X0',s0''⟩
 cases e with
 | normal =>
   obtain ⟨g',f,hlt,m,r0⟩:=q
   obtain ⟨h'',H'',s'',X1,hl,ho⟩:=s0''.lose m.nd m.raw
   have X':=X0'.trans X1
   have hm : ∀ (i : Nat) x1,(hp g')[i]? = some x1 -> H''[f i]? = some (x1.ren f):=fun i x1 e=>by
    rw [ho _ (m.out i (List.getElem?_eq_some_iff.1 e).1)];exact r0.hm i x1 e
   have R : Ren f (fun i=>β'' (f i)) (hp g') β'' H'':=⟨hm,fun _ _=>rfl⟩
   have hI' : I g' a'' w'':=by
    refine ⟨h'',fun i=>β'' (f i),⟨(X.trans X').imm,r0.len,fun i x x' e e'=>?_⟩,R.sr s''.sr r0.inj r0.low,fun t r e=>?_,s''.size,s''.df.any⟩
    ·have hi:=(List.getElem?_eq_some_iff.1 e).1
     have h1:=hm i x' e'
     rw [r0.fix i hi,r0.lowb i x' hi e'] at h1
     have h2:=(X.trans X').to i x x' e h1
     cases x with
     | dead=>exact h2
     | free=>trivial
     | _=>simpa only [Blk.to,r0.fix i hi] using h2
    ·obtain ⟨h1,h2⟩:=r0.st t r e
     obtain ⟨v,h3,h4⟩:=s''.fits t _ h1
     exact ⟨v,h3,R.unrep h4 rfl h2⟩
   refine ⟨⟨g',hI'⟩,?_⟩
   have:=(hM a'' w'' ⟨g',hI'⟩).2 g' hI'
   omega
 | _=>exact ⟨D'',σ'',H0',h0',β'',q,X.trans X0',s0''⟩
structure jq {G : Type} (I : G -> Prop) (L : G -> List (Nat × AV)) (hp : G -> List Blk) (μ : G -> Nat) (base : Nat) (g : G) (D' : List Nat) (σ' : St) (H' : List Blk) : Prop where
 o : ∃ g' f,I g' /\ μ g' < μ g /\ MarksOk D' H' f (hp g').length /\ RenS f base (hp g') (stX (L g')) H' σ'
theorem Walk.loopM {c : Code} {G : Type} (ok : zr P T) (own : List Nat) (I : G -> Prop) (L : G -> List (Nat × AV)) (hp : G -> List Blk) (μ : G -> Nat) (g0 : G) (base : Nat) (h0 : I g0) (hH : hp g0 = H) (hb : base = H.length) (hs : SubX (L g0) σ)
  (round : ∀ g,I g -> XRun P T N ρ own c (kv (jq I L hp μ base g) Q) [] (stX (L g)) (hp g)) : Walk P N ρ (.loop c) Q [] σ H:=by
 constructor
 refine AWp.loopM (G:={g : G // I g}) (fun g=>stX (L g.1)) (fun g=>hp g.1) (fun g=>μ g.1) ⟨g0,h0⟩ (yz hs) hH rfl fun g=>?_
 refine (XRun.sound ok (round g.1 g.2)).mono fun e D' σ' H' q=>?_
 cases e with
 | normal=>obtain ⟨g',f,h2,h3,h4,h5⟩:=q;exact ⟨⟨g',h2⟩,f,h3,h4,hb ▸ h5⟩
 | _=>exact q
theorem stX_mem : ∀ (l : List (Nat × AV)) t r,stX l t = some r -> (t,r) ∈ l:=by
 intro l;induction l with
 | nil=>intro t r h;cases h
 | cons p l ih =>
   obtain ⟨u,x⟩:=p
   intro t r h;simp only [stX,yl,upd] at h
   split at h
   ·rename_i e;cases h;subst e;exact List.mem_cons_self
   ·exact List.mem_cons_of_mem _ (ih t r h)
theorem AV.ren_id (a : AV) : a.ren id = a:=by
 refine AV.rec (motive_1:=fun a=>a.ren id = a) (motive_2:=fun l=>renL id l = l) ?_ ?_ ?_ ?_ ?_ ?_ ?_ ?_ ?_ ?_ ?_ ?_ ?_ ?_ ?_ ?_ ?_ ?_ ?_ ?_ ?_ a
 all_goals first|(intros;rfl)|(intro cs ih;simp only [AV.ren,ih])|(intro f cs ih;simp only [AV.ren,ih])|(intro x l ih1 ih2;simp only [renL,ih1,ih2])
theorem Blk.ren_id (x : Blk) : x.ren id = x:=by
 have hL : ∀ l : List AV,renL id l = l:=fun l=>by have:=AV.ren_id (.agg l);simpa [AV.ren] using this
 cases x with
 | cells cs=>simp only [Blk.ren,hL]
 | grow t nl els=>simp only [Blk.ren,hL]
 | map es =>
   simp only [Blk.ren]
   have : ∀ p ∈ es,(fun p : Int × AV=>(p.1,p.2.ren id)) p = id p:=fun p _=>by simp only [AV.ren_id];rfl
   rw [List.map_congr_left this,List.map_id]
 | pm es =>
   simp only [Blk.ren]
   have : ∀ p ∈ es,(fun p : (Int × Int) × AV=>(p.1,p.2.ren id)) p = id p:=fun p _=>by simp only [AV.ren_id];rfl
   rw [List.map_congr_left this,List.map_id]
 | lp st pend f tm ps x y n =>
   simp only [Blk.ren]
   have : ∀ p ∈ tm,(fun p : Nat × AV=>(p.1,p.2.ren id)) p = id p:=fun p _=>by simp only [AV.ren_id];rfl
   rw [List.map_congr_left this,List.map_id]
 | _=>rfl
theorem jq.go {G : Type} {I : G -> Prop} {L : G -> List (Nat × AV)} {hp : G -> List Blk} {μ : G -> Nat} {base : Nat} {g : G} {D : List Nat} (g' : G) (l : List Blk) (h1 : I g') (h2 : μ g' < μ g) (h3 : hp g' ++ l = H) (h4 : SubX (L g') σ) (hb : base <= (hp g').length)
  (h5 : ∀ x ∈ hp g',x.low (hp g').length = true) (h6 : ∀ p ∈ L g',p.2.low (hp g').length = true) (hnd : D.Nodup) (hD : ∀ i ∈ D,(hp g').length <= i /\ lget H i = some (.raw (.deferred (some [])))) : jq I L hp μ base g D σ H:=
 ⟨g',id,h1,h2,⟨hnd,fun i hi=>by have:=(hD i hi).2;rwa [zl] at this,fun i hi h=>by have:=(hD _ h).1;simp only [id] at this;omega⟩,
  ⟨fun _ _ _ _ e=>e,fun _ _=>rfl,hb,fun i x1 e=>by
   rw [<- h3,Blk.ren_id];simp only [id]
   rw [List.getElem?_append_left (List.getElem?_eq_some_iff.1 e).1];exact e,fun _ x1 _ _=>Blk.ren_id x1,h5,fun t r e=>by
   refine ⟨by rw [AV.ren_id];exact yz h4 t r e,h6 (t,r) (stX_mem _ _ _ e)⟩⟩⟩
end
end GA
end
section
namespace GA
open Go Go.RowKit Go.ChangeShapes Go.WideShapes
section
variable {P : Program} {W : World}
def RepC (P : Program) (W : World) (qs : List AV) (cs : List Value) : Prop:=
 qs.length = cs.length /\ (∀ a ∈ qs,a.one = true) /\ ∀ (j : Nat) a,qs[j]? = some a -> ∃ v,cs[j]? = some v /\ Rep P (fun b=>W.heap[b]?) (fun _=>undef) [] a v
theorem RepC.nil : RepC P W [] []:=⟨rfl,by simp,by simp⟩
theorem RepC.app {qs bs : List AV} {cs ds : List Value} (h1 : RepC P W qs cs) (h2 : RepC P W bs ds) : RepC P W (qs ++ bs) (cs ++ ds):=by
 refine ⟨by simp [h1.1,h2.1],fun a ha=>?_,fun j a e=>?_⟩
 ·rcases List.mem_append.1 ha with h | h
  ·exact h1.2.1 a h
  ·exact h2.2.1 a h
 ·rcases Nat.lt_or_ge j qs.length with hj | hj
  ·rw [List.getElem?_append_left hj] at e
   obtain ⟨v,e1,e2⟩:=h1.2.2 j a e
   exact ⟨v,by rw [List.getElem?_append_left (by rw [<- h1.1];exact hj)];exact e1,e2⟩
  ·rw [List.getElem?_append_right hj] at e
   obtain ⟨v,e1,e2⟩:=h2.2.2 _ a e
   exact ⟨v,by rw [List.getElem?_append_right (by rw [<- h1.1];exact hj),<- h1.1];exact e1,e2⟩
theorem RepC.single {a : AV} {v : Value} (h0 : a.one = true) (h : Rep P (fun b=>W.heap[b]?) (fun _=>undef) [] a v) : RepC P W [a] [v]:=by
 refine ⟨rfl,by simpa using h0,fun j x e=>?_⟩
 cases j with
 | zero=>simp at e;subst e;exact ⟨v,rfl,h⟩
 | succ j=>simp at e
structure yE (P : Program) (t : TypeId) (n : Nat) {A : Type} (f : A -> List AV) : Prop where
 size : P.cellsOf t = n
 len : ∀ a,(f a).length = n
 go : ∀ (H : Type) (enc : TypeId × Value -> H) (W : World) (fuel : Nat) (cs : List Value) (x : DataW H × List MemPlace),cs.length = n -> DataW.trod enc P W 0 (fun _=>true) true fuel t cs = some x -> ∃ a : A,RepC P W (f a) cs
theorem yE.as {t : TypeId} {n : Nat} {A B : Type} {f : A -> List AV} {g : B -> List AV} (o : yE P t n f) (h : ∀ a,∃ b,g b = f a) (hl : ∀ b,(g b).length = n) : yE P t n g:=
 ⟨o.size,hl,fun H enc W fuel cs x h1 h2=>let ⟨a,h3⟩:=o.go H enc W fuel cs x h1 h2;let ⟨b,h4⟩:=h a;⟨b,h4 ▸ h3⟩⟩
theorem yE.int {t : TypeId} {k : IntKind} (hu : P.underlying t = some (.int k)) (hc : P.cellsOf t = 1) : yE P t 1 (fun a : {n : Int // k.min <= n /\ n <= k.max}=>[AV.int k a.1]):=
 ⟨hc,fun _=>rfl,fun H enc W fuel cs x h1 h2=>by
  obtain ⟨n,rfl,_,hw⟩:=DataW.trod_int hu h2
  simp only [Lit.wf,Bool.and_eq_true,decide_eq_true_eq] at hw
  exact ⟨⟨n,hw⟩,.single rfl (.int k n)⟩⟩
theorem flat_un {els : List AV} {n : Nat} (h0 : 0 < n) (hw : ∀ e ∈ els,e.cells.length = n) : ∀ (k : Nat) x,(flat els)[k]? = some x -> ∃ e,els[k / n]? = some e /\ e.cells[k % n]? = some x:=by
 induction els with
 | nil=>intro k x e;simp [flat] at e
 | cons y els ih =>
   intro k x e
   have hy:=hw y List.mem_cons_self
   have hfl : flat (y :: els) = y.cells ++ flat els:=by simp [flat]
   rw [hfl] at e
   rcases Nat.lt_or_ge k n with hk | hk
   ·rw [List.getElem?_append_left (by omega)] at e
    exact ⟨y,by rw [Nat.div_eq_of_lt hk];rfl,by rw [Nat.mod_eq_of_lt hk];exact e⟩
   ·rw [List.getElem?_append_right (by omega),hy] at e
    obtain ⟨z,h1,h2⟩:=ih (fun e he=>hw e (List.mem_cons_of_mem _ he)) (k - n) x e
    have e1 : k / n = (k - n) / n + 1:=Nat.div_eq_sub_div h0 hk
    have e2 : k % n = (k - n) % n:=by rw [Nat.mod_eq_sub_mod hk]
    exact ⟨z,by rw [e1];exact h1,by rw [e2];exact h2⟩
theorem fi {a : Addr} {v : Value} (h : W.cell? a = some v) : ∃ c t fz,W.heap[a.block]? = some (.cells c t fz) /\ a.spot = none /\ c[a.off]? = some v:=by
 unfold World.cell? at h
 split at h
 ·rename_i c t fz hh
  split at h
  ·cases h
  ·rename_i hs;exact ⟨c,t,fz,hh,by simpa using hs,h⟩
 ·cases h
theorem fC (a : Addr) (i : Nat) : (a.add i).block = a.block:=by unfold Addr.add;split <;> rfl
theorem add_off (a : Addr) (i : Nat) : (a.add i).off = a.off + i:=by
 unfold Addr.add;split
 ·rename_i h;simp [h]
 ·rfl
theorem add_zero (a : Addr) : a.add 0 = a:=by unfold Addr.add;rw [if_pos rfl]
theorem yE.slice {t e : TypeId} {n : Nat} {A : Type} {f : A -> List AV} (hu : P.underlying t = some (.slice e)) (hc : P.cellsOf t = 1) (o : yE P e n f) (hn : 0 < n) (mk : A -> AV) (hmk : ∀ a,(mk a).cells = f a) :
  yE P t 1 (fun p : {p : Bool × List A // (p.1 = true -> p.2 = []) /\ p.2.length <= maxLen}=>[AV.sl p.1.1 (p.1.2.map mk)]):=by
 refine ⟨hc,fun _=>rfl,fun H enc W fuel cs x h1 h2=>?_⟩
 rcases Go.Deep.open_slice hu h2 with ⟨rfl,rfl⟩ | ⟨a,len,cap,m,nf,D,Pl,rfl,hb,hl,hm,hmd,hx,hel⟩
 ·exact ⟨⟨(true,[]),fun _=>rfl,by simp⟩,.single rfl .slnil⟩
 ·rw [if_pos rfl] at hmd
  subst hmd
  rw [o.size] at hel
  rcases Nat.eq_zero_or_pos len with h0 | h0
  ·subst h0
   exact ⟨⟨(false,[]),fun h=>rfl,by simp⟩,.single rfl .slemp⟩
  ·have hex : ∀ i,i < len -> ∃ (y : A) (cs' : List Value),W.cells? 0 (a.add (i * n)) n = some cs' /\ RepC P W (f y) cs':=by
    intro i hi
    obtain ⟨cs',h3,h4⟩:=hel i (by omega)
    obtain ⟨y,hy⟩:=o.go H enc W nf cs' _ (World.cells?_some h3).2.1 h4
    exact ⟨y,cs',h3,hy⟩
   classical
   let ys : Nat -> A:=fun i=>if h : i < len then Classical.choose (hex i h) else Classical.choose (hex 0 h0)
   have hys : ∀ i,i < len -> ∃ cs',W.cells? 0 (a.add (i * n)) n = some cs' /\ RepC P W (f (ys i)) cs':=fun i hi=>by
    simp only [ys,dif_pos hi];exact Classical.choose_spec (hex i hi)
   refine ⟨⟨(false,(List.range len).map ys),(fun h=>by cases h),(by simp only [List.length_map,List.length_range];omega)⟩,.single rfl ?_⟩
   dsimp only
   obtain ⟨cs0,hc0,hr0⟩:=hys 0 h0
   have hcell:=(World.cells?_some hc0).2.2 0 hn
   have hcl:=(World.cells?_some hc0).2.1
   rw [List.getElem?_eq_getElem (by omega),Nat.zero_mul,add_zero,add_zero] at hcell
   obtain ⟨c,ty,fz,hh,hsp,_⟩:=fi hcell
   obtain ⟨b,off,sp⟩:=a
   have hsp : sp = none:=hsp
   subst hsp
   have hw : ∀ e ∈ ((List.range len).map ys).map mk,e.cells.length = n:=by
    intro e he
    simp only [List.mem_map] at he
    obtain ⟨y,_,rfl⟩:=he
    rw [hmk];exact o.len y
   have key : ∀ (j : Nat) x,(flat (((List.range len).map ys).map mk))[j]? = some x -> ∃ v,c[off + j]? = some v /\ Rep P (fun b=>W.heap[b]?) (fun _=>undef) [] x v /\ x.one = true:=by
    intro j x e
    obtain ⟨el,e1,e2⟩:=flat_un hn hw j x e
    simp only [List.getElem?_map] at e1
    cases hr : (List.range len)[j / n]? with
    | none=>simp [hr] at e1
    | some i =>
      obtain ⟨hi,hi2⟩:=List.getElem?_eq_some_iff.1 hr
      have hie : i = j / n:=by simpa using hi2.symm
      have hil : j / n < len:=by simpa using hi
      simp only [hr,Option.map_some,Option.some.injEq] at e1
      subst e1
      rw [hmk] at e2
      subst hie
      obtain ⟨cs',h3,h4⟩:=hys _ hil
      obtain ⟨v,h5,h6⟩:=h4.2.2 _ _ e2
      have h7:=(World.cells?_some h3).2.2 (j % n) (Nat.mod_lt _ hn)
      rw [h5] at h7
      obtain ⟨c',ty',fz',h8,_,h9⟩:=fi h7
      rw [fC,fC] at h8
      rw [add_off,add_off] at h9
      rw [h8] at hh;cases hh
      refine ⟨v,?_,h6,h4.2.1 x (List.mem_of_getElem? e2)⟩
      have : off + j / n * n + j % n = off + j:=by have:=Nat.div_add_mod j n;rw [Nat.mul_comm] at this;omega
      rw [this] at h9;exact h9
   refine .sl (w:=n) (fun j=>(c[off + j]?).getD undef) (by simp) (by simp;omega) hh hw hn (fun x hx=>?_) (by simp;omega) (fun j x e=>?_) (fun j x e=>?_)
   ·obtain ⟨j,hj⟩:=yb hx
    obtain ⟨v,_,_,h⟩:=key j x hj;exact h
   ·obtain ⟨v,h1,_⟩:=key j x e;rw [h1];rfl
   ·obtain ⟨v,h1,h2,_⟩:=key j x e;rw [h1];exact h2
structure vF (P : Program) (fs : List Field) (off n : Nat) {A : Type} (f : A -> List AV) : Prop where
 len : ∀ a,(f a).length = n
 go : ∀ (H : Type) (enc : TypeId × Value -> H) (W : World) (fuel : Nat) (cs : List Value),off + n = cs.length ->
  (∀ fd ∈ fs,∃ x,DataW.trod enc P W 0 (fun _=>true) true fuel fd.type ((cs.drop fd.offset).take (P.cellsOf fd.type)) = some x) -> ∃ a : A,RepC P W (f a) (cs.drop off)
theorem vF.nil {off : Nat} : vF P [] off 0 (fun _ : Unit=>[]):=
 ⟨fun _=>rfl,fun H enc W fuel cs h _=>⟨(),by rw [List.drop_eq_nil_of_le (by omega)];exact .nil⟩⟩
theorem vF.cons {fd : Field} {fs : List Field} {off n m : Nat} {A B : Type} {f : A -> List AV} {g : B -> List AV} (o : yE P fd.type n f) (ho : fd.offset = off) (r : vF P fs (off + n) m g) : vF P (fd :: fs) off (n + m) (fun p : A × B=>f p.1 ++ g p.2):=by
 refine ⟨fun p=>by rw [List.length_append,o.len,r.len],fun H enc W fuel cs h hx=>?_⟩
 obtain ⟨x,h1⟩:=hx fd List.mem_cons_self
 rw [ho,o.size] at h1
 obtain ⟨a,ha⟩:=o.go H enc W fuel _ x (by rw [List.length_take,List.length_drop];omega) h1
 obtain ⟨b,hb⟩:=r.go H enc W fuel cs (by omega) (fun fd' hf=>hx fd' (List.mem_cons_of_mem _ hf))
 refine ⟨(a,b),?_⟩
 have : cs.drop off = (cs.drop off).take n ++ cs.drop (off + n):=by
  conv=>lhs;rw [<- List.take_append_drop n (cs.drop off)]
  rw [List.drop_drop]
 rw [this]
 exact ha.app hb
theorem yE.struct {t : TypeId} {fs : Array Field} {n : Nat} {A : Type} {f : A -> List AV} (hu : P.underlying t = some (.struct fs)) (hc : P.cellsOf t = n) (o : vF P fs.toList 0 n f) : yE P t n f:=by
 refine ⟨hc,o.len,fun H enc W fuel cs x h1 h2=>?_⟩
 obtain ⟨xs,k,rfl,rfl,h3,h4,h5⟩:=DataW.trod_struct hu h2
 obtain ⟨a,ha⟩:=o.go H enc W k cs (by omega) (fun fd hf=>by
  obtain ⟨i,hi⟩:=List.mem_iff_getElem?.1 hf
  have hi' : fs[i]? = some fd:=by simpa using hi
  have hlt:=(Array.getElem?_eq_some_iff.1 hi').1
  exact ⟨xs[i]'(by omega),by rw [h5 i fd hi',List.getElem?_eq_getElem]⟩)
 exact ⟨a,by simpa using ha⟩
theorem yE.array {t e : TypeId} {m n k : Nat} {A : Type} {f : A -> List AV} (hu : P.underlying t = some (.array m e)) (hc : P.cellsOf t = k) (hk : k = m * n) (o : yE P e n f) : yE P t k (fun l : {l : List A // l.length = m}=>l.1.flatMap f):=by
 have hlen : ∀ l : List A,(l.flatMap f).length = l.length * n:=fun l=>by
  induction l with
  | nil=>simp
  | cons x l ih=>rw [List.flatMap_cons,List.length_append,o.len,ih,List.length_cons,Nat.add_mul];omega
 refine ⟨hc,fun l=>by rw [hlen,l.2,hk],fun H enc W fuel cs x h1 h2=>?_⟩
 obtain ⟨xs,q,rfl,rfl,h3,h4,h5⟩:=DataW.trod_array hu h2
 rw [o.size] at h5
 have go : ∀ j,j <= m -> ∃ l : List A,l.length = j /\ RepC P W (l.flatMap f) (cs.drop ((m - j) * n)):=by
  intro j
  induction j with
  | zero=>intro _;exact ⟨[],rfl,by rw [Nat.sub_zero,List.drop_eq_nil_of_le (by rw [h1,hk];exact Nat.le_refl _)];exact .nil⟩
  | succ j ih =>
    intro hj
    obtain ⟨l,hl,hr⟩:=ih (by omega)
    have e1 : (m - j) * n = (m - (j + 1)) * n + n:=by rw [show m - j = m - (j + 1) + 1 by omega,Nat.add_mul];omega
    have hle : (m - (j + 1)) * n + n <= cs.length:=by
     rw [h1,hk,<- e1];exact Nat.mul_le_mul_right _ (by omega)
    have h6:=h5 (m - (j + 1)) (by omega)
    rw [List.getElem?_eq_getElem (by omega)] at h6
    obtain ⟨a,ha⟩:=o.go H enc W q _ _ (by rw [List.length_take,List.length_drop];omega) h6
    refine ⟨a :: l,by simp [hl],?_⟩
    have : cs.drop ((m - (j + 1)) * n) = (cs.drop ((m - (j + 1)) * n)).take n ++ cs.drop ((m - j) * n):=by
     conv=>lhs;rw [<- List.take_append_drop n (cs.drop ((m - (j + 1)) * n))]
     rw [List.drop_drop,e1]
    rw [this,List.flatMap_cons]
    exact ha.app hr
 obtain ⟨l,hl,hr⟩:=go m (Nat.le_refl _)
 exact ⟨⟨l,hl⟩,by simpa using hr⟩
theorem yE.arg {H : Type} {enc : TypeId × Value -> H} {t : TypeId} {A : Type} {g : A -> AV} {v : Value} {d : DataW H} {ps : List MemPlace} (o : yE P t 1 (fun a=>[g a])) (hv : v.cells = #[v]) (h : DataW.Trod enc P W 0 (fun _=>true) true t v d ps) :
  ∃ a,Rep P (fun b=>W.heap[b]?) (fun _=>undef) [] (g a) v:=by
 obtain ⟨fuel,hf⟩:=h
 obtain ⟨a,ha⟩:=o.go H enc W fuel v.cells.toList _ (by rw [hv];rfl) hf
 obtain ⟨u,h1,h2⟩:=ha.2.2 0 (g a) rfl
 rw [hv] at h1;simp at h1;subst h1
 exact ⟨a,h2⟩
theorem SR.start (W : World) : SR P ⟨World.env W,fun _=>none,fun _=>none⟩ (fun b=>W.heap[b]?) (fun _=>undef) [] W:=
 ⟨rfl,fun _ _ h=>h,by simp,fun i j x e=>by simp [blkOf] at e,fun i x e=>by simp [blkOf] at e,by simp,fun i x e=>by simp [blkOf] at e⟩
theorem Comp.law {f : FuncId} {rs : List AV} (x : Comp P f rs (.bool true)) {args : Array Value} (hr : RepL P (fun b=>W.heap[b]?) (fun _=>undef) [] rs args.toList) :
  Calls P f args W fun e W'=>e = .returned (.bool true) /\ World.env W' = World.env W /\ ∀ (b : Nat) o,W.heap[b]? = some o -> W'.heap[b]? = some o:=by
 have h:=(x.o.2 _ _ _ W args.toList (SR.start W) hr).calls (fun _ _ hd=>by cases hd)
 have e : args.toList.toArray = args:=by simp
 rw [e] at h
 refine h.mono ?_
 rintro e w' ⟨r,H',h',β',v,rfl,⟨rfl,rfl⟩,X,s',hv⟩
 cases hv
 exact ⟨rfl,s'.env,fun b o hb=>s'.imm b o (X.imm b o hb)⟩
theorem zbu {W' : World} {may : MemPlace -> Prop} (he : World.env W' = World.env W) (hk : ∀ (b : Nat) o,W.heap[b]? = some o -> W'.heap[b]? = some o) : W.keptBut W' may:=by
 refine ⟨congrArg Env0.os he,congrArg Env0.out he,fun i hi=>?_⟩
 have h1 : W.heap[i]? = some W.heap[i]:=Array.getElem?_eq_getElem hi
 have h2:=hk i _ h1
 rw [h1,h2]
 generalize W.heap[i] = o
 cases o <;> simp
theorem wm {H : Type} {enc : TypeId × Value -> H} (hl : laidOutB P = true) {W' : World} {sp' : Nat -> Bool} (hk : ∀ (b : Nat) o,W.heap[b]? = some o -> W'.heap[b]? = some o) (hwt : ∀ p,(∃ o,W.heap[MemPlace.block p]? = some o) -> sp' p.block = true) :
  ∀ {ts : List TypeId} {vs : List Value} {ds : List (DataW H)} {ps : List MemPlace},(∀ t ∈ ts,P.readableRec t = true /\ t < P.types.size) -> (∀ p ∈ ps,∃ o,W.heap[MemPlace.block p]? = some o) -> DataW.TrodAll enc P W 0 (fun _=>true) true ts vs ds ps -> DataW.TrodAll enc P W' 0 sp' true ts vs ds ps
 | [],vs,ds,ps,_,_,h=>by obtain ⟨rfl,rfl,rfl⟩:=trodAll_nil h;rfl
 | t :: ts,vs,ds,ps,ht,hp,h=>by
   obtain ⟨v,vs1,d,ds1,p,q,rfl,rfl,rfl,h1,h2⟩:=trodAll_cons h
   have ht0:=ht t List.mem_cons_self
   refine ⟨p,q,Go.WideElems.Trod_stays hl ht0.1 ht0.2 h1 (fun x hx=>?_) (fun x hx=>hwt x (hp x (List.mem_append_left _ hx))),wm hl hk hwt (fun t' h'=>ht t' (List.mem_cons_of_mem _ h')) (fun x hx=>hp x (List.mem_append_right _ hx)) h2,rfl⟩
   obtain ⟨o,ho⟩:=hp x (List.mem_append_left _ hx)
   cases x with
   | cell b off=>simp only [World.sameAt,World.cell?,MemPlace.block] at ho ⊢;rw [ho,hk _ _ ho]
   | map b=>simp only [World.sameAt,MemPlace.block] at ho ⊢;rw [ho,hk _ _ ho]
theorem post_true {H : Type} {enc : TypeId × Value -> H} {fn : Func} {s : ChangeSpec} {tb : TypeId} {W' : World} {args : Array Value} {ds gs : List (DataW H)} {before : List MemPlace}
  (ht : fn.resultTypes = #[tb]) (hu : P.underlying tb = some .bool) (hl : laidOutB P = true) (hr : ∀ t ∈ fn.params.toList,P.readableRec t = true /\ t < P.types.size) (hv : s.vars = [])
  (hW : DataW.Whole enc P fn.params.toList s.vars false W args.toList ds gs before) (hs : gs = [] -> s.fn H (ds ++ gs) = { results:=[.lit (.bool true)],args:=ds })
  (he : World.env W' = World.env W) (hk : ∀ (b : Nat) o,W.heap[b]? = some o -> W'.heap[b]? = some o) : s.post enc P fn false true false false W args (.bool true) W':=by
 have hW':=hW
 obtain ⟨p,q,hA,hV,hb,hz,_⟩:=hW
 rw [hv] at hV
 obtain ⟨rfl,rfl⟩:=trodVars_none hV
 rw [List.append_nil] at hb
 subst hb
 have hs:=hs rfl
 have hlt : ∀ x ∈ before,∃ o,W.heap[MemPlace.block x]? = some o:=fun x hx=>⟨_,Array.getElem?_eq_getElem (hW'.lt x hx)⟩
 refine ⟨ds,[],before,[],before,[],hW',?_,?_,?_,zbu he hk,fun h=>by cases h⟩
 ·rw [hs,ht]
  exact trodAll_cons_mk (shut_bool hu _) trodAll_mk0
 ·rw [hs]
  exact wm hl hk (fun x ⟨o,ho⟩=>by simpa using (Array.getElem?_eq_some_iff.1 ho).1) hr hlt hA
 ·rw [hv,hs];rfl
end
end GA
end
section
namespace GA
open Go Go.RowKit
section
variable {P : Program} {T : Tab} {N : Nat} {ρ : Option Nat} {own : List Nat} {E : Env} {h h' : Nat -> Option Obj} {β β' : Nat -> Value} {H H' Hn : List Blk} {w w' : World} {σ : St} {D : List Nat}
structure ke (P : Program) (f : FuncId) (rs : List AV) (r : AV) (Hn : List Blk) : Prop where
 lo : lowL 0 rs = true
 lr : r.low Hn.length = true
 lH : ∀ x ∈ Hn,x.low Hn.length = true
 o : zE P f rs [] fun r' H'=>r' = r /\ H' = Hn
theorem SR.beside (s : SR P E h β H w) {E' : Env} (hb : E'.b = E.b) (h1 : ∀ i b,blkOf β H i = some b -> E'.fr b = w.heap[b]?) (h2 : ∀ b,(∀ i,blkOf β H i ≠ some b) -> E'.fr b = E.fr b)
  (X : Ext h β [] h' β' Hn) (s' : SR P E' h' β' Hn w') (lo : ∀ x ∈ Hn,x.low Hn.length = true) :
  ∃ β'',Ren (H.length + ·) β' Hn β'' (H ++ Hn.map (Blk.ren (H.length + ·))) /\ Ext h β H h' β'' (H ++ Hn.map (Blk.ren (H.length + ·))) /\ SR P E h' β'' (H ++ Hn.map (Blk.ren (H.length + ·))) w':=by
 let β'' : Nat -> Value:=fun i=>if i < H.length then β i else β' (i - H.length)
 have b1 : ∀ i,i < H.length -> β'' i = β i:=fun i hi=>if_pos hi
 have b2 : ∀ i,β'' (H.length + i) = β' i:=fun i=>by
  show (if H.length + i < H.length then β (H.length + i) else β' (H.length + i - H.length)) = β' i
  rw [if_neg (by omega)];congr 1;omega
 have R : Ren (H.length + ·) β' Hn β'' (H ++ Hn.map (Blk.ren (H.length + ·))):=by
  refine ⟨fun i x e=>?_,fun i hi=>b2 i⟩
  rw [List.getElem?_append_right (by omega),List.getElem?_map,show H.length + i - H.length = i by omega,e];rfl
 have hlow : ∀ i,i < H.length -> (H ++ Hn.map (Blk.ren (H.length + ·)))[i]? = H[i]?:=fun i hi=>List.getElem?_append_left hi
 have X' : Ext h β H h' β'' (H ++ Hn.map (Blk.ren (H.length + ·))):=by
  refine ⟨X.imm,by simp,fun i x x' e e'=>?_⟩
  have hi:=(List.getElem?_eq_some_iff.1 e).1
  rw [hlow i hi,e] at e';cases e'
  have:=Blk.to_refl β i x
  cases x <;> first|exact rfl | trivial|(simp only [Blk.to,b1 i hi] at this ⊢;exact this)
 have o1 : ∀ i,i < H.length -> blkOf β'' (H ++ Hn.map (Blk.ren (H.length + ·))) i = blkOf β H i:=fun i hi=>by
  unfold blkOf;rw [hlow i hi,b1 i hi]
 have o2 : ∀ i,i < Hn.length -> blkOf β'' (H ++ Hn.map (Blk.ren (H.length + ·))) (H.length + i) = blkOf β' Hn i:=fun i hi=>R.blkOf hi
 have hsplit : ∀ i x,blkOf β'' (H ++ Hn.map (Blk.ren (H.length + ·))) i = some x -> (i < H.length /\ blkOf β H i = some x) \/ ∃ j,j < Hn.length /\ i = H.length + j /\ blkOf β' Hn j = some x:=by
  intro i x e
  have hi:=(z8 e).1
  simp only [List.length_append,List.length_map] at hi
  by_cases hlt : i < H.length
  ·exact .inl ⟨hlt,by rw [<- o1 i hlt];exact e⟩
  ·refine .inr ⟨i - H.length,by omega,by omega,?_⟩
   rw [<- o2 _ (by omega),show H.length + (i - H.length) = i by omega];exact e
 have hclash : ∀ i j b,blkOf β H i = some b -> blkOf β' Hn j = some b -> False:=by
  intro i j b e1 e2
  have h3:=s'.fro j b e2
  rw [h1 i b e1,Array.getElem?_eq_getElem (s.lt e1)] at h3
  cases h3
 have hkeep : ∀ i b,blkOf β H i = some b -> w'.heap[b]? = w.heap[b]? /\ h' b = none:=by
  intro i b e
  have hlt:=s.lt e
  have e1 : E'.fr b = some w.heap[b]:=by rw [h1 i b e,Array.getElem?_eq_getElem hlt]
  obtain ⟨e2,e3⟩:=s'.frm b _ e1
  exact ⟨by rw [e2,Array.getElem?_eq_getElem hlt],e3⟩
 refine ⟨β'',R,X',s'.env.trans hb,s'.imm,fun i x e=>?_,fun i j x e1 e2=>?_,fun i x e=>?_,fun b o e=>?_,fun i x e=>?_⟩
 ·by_cases hlt : i < H.length
  ·rw [hlow i hlt] at e
   exact (s.blk i x e).keep X' (b1 i hlt) fun hd hd' b hb=>(hkeep i b (by unfold blkOf;rw [e];cases x <;> first|exact absurd rfl hd|exact absurd rfl hd'|exact hb)).1
  ·have hi:=(List.getElem?_eq_some_iff.1 e).1
   simp only [List.length_append,List.length_map] at hi
   rw [List.getElem?_append_right (by omega),List.getElem?_map] at e
   obtain ⟨y,hy,rfl⟩:=Option.map_eq_some_iff.1 e
   have:=R.blk (i:=i - H.length) (by omega) (s'.blk _ _ hy)
   simp only at this
   rwa [show H.length + (i - H.length) = i by omega] at this
 ·rcases hsplit i x e1 with ⟨_,a1⟩ | ⟨i',_,rfl,a1⟩ <;> rcases hsplit j x e2 with ⟨_,a2⟩ | ⟨j',_,rfl,a2⟩
  ·exact s.own _ _ _ a1 a2
  ·exact (hclash _ _ _ a1 a2).elim
  ·exact (hclash _ _ _ a2 a1).elim
  ·rw [s'.own _ _ _ a1 a2]
 ·rcases hsplit i x e with ⟨_,a1⟩ | ⟨i',_,rfl,a1⟩
  ·exact (hkeep i x a1).2
  ·exact s'.fresh _ _ a1
 ·by_cases hh : ∃ i,blkOf β H i = some b
  ·obtain ⟨i,hi⟩:=hh
   rw [s.fro _ _ hi] at e;cases e
  ·exact s'.frm b o (by rw [h2 b (fun i hi=>hh ⟨i,hi⟩)];exact e)
 ·rcases hsplit i x e with ⟨_,a1⟩ | ⟨j,_,rfl,a1⟩
  ·exact s.fro _ _ a1
  ·have h3:=s'.fro _ _ a1
   rw [h2 x (fun i hi=>hclash _ _ _ hi a1)] at h3
   exact h3
theorem zE.give {f : FuncId} {rs : List AV} {r : AV} {k : AV -> List Blk -> Prop} (x : ke P f rs r Hn) (hk : k (r.ren (H.length + ·)) (H ++ Hn.map (Blk.ren (H.length + ·)))) : zE P f rs H k:=by
 refine ⟨x.o.1,fun E h β w vs s hr=>?_⟩
 classical
 let E' : Env:=⟨E.b,fun b=>if ∃ i,blkOf β H i = some b then w.heap[b]? else E.fr b,E.en⟩
 have s0 : SR P E' h β [] w:=by
  refine ⟨s.env,s.imm,fun i x e=>by simp at e,fun i j x e=>by simp [blkOf] at e,fun i x e=>by simp [blkOf] at e,fun b o e=>?_,fun i x e=>by simp [blkOf] at e⟩
  simp only [E'] at e
  split at e
  ·rename_i hh;obtain ⟨i,hi⟩:=hh;exact ⟨e,s.fresh _ _ hi⟩
  ·exact s.frm b o e
 have hr0 : RepL P h β [] rs vs:=⟨hr.1,fun j y e=>by
  obtain ⟨v,e1,e2⟩:=hr.2 j y e
  exact ⟨v,e1,Rep.cut (H:=[]) (l:=H) e2 ((zo.1 x.lo) y (List.mem_of_getElem? e))⟩⟩
 refine (x.o.2 E' h β w vs s0 hr0).mono ?_
 rintro e w' ⟨r1,H1,h',β',v,rfl,⟨rfl,rfl⟩,X,s',hrep⟩
 obtain ⟨β'',R,X',s''⟩:=s.beside (E':=E') rfl (fun i b e=>by simp only [E'];rw [if_pos ⟨i,e⟩]) (fun b hn=>by simp only [E'];rw [if_neg (fun ⟨i,hi⟩=>hn i hi)]) X s' x.lH
 exact ⟨_,_,h',β'',v,rfl,hk,X',s'',R.rep hrep⟩
theorem zf.give {f : FuncId} {rs : List AV} {r : AV} {k : AV -> List Blk -> Prop} (x : ke P f rs r Hn) (hk : k (r.ren (H.length + ·)) (H ++ Hn.map (Blk.ren (H.length + ·)))) : zf P f rs H k:=⟨.give x hk⟩
theorem ke.comp {f : FuncId} {rs : List AV} {r r0 : AV} (x : ke P f rs r Hn) (hf : Froz P Hn r r0) : Comp P f rs r0:=by
 refine ⟨x.lo,x.o.1,fun E h β w vs s hr=>?_⟩
 refine (x.o.2 E h β w vs s hr).mono ?_
 rintro e w' ⟨r1,H1,h',β',v,rfl,⟨rfl,rfl⟩,X,s',hrep⟩
 refine ⟨r0,[],hall h' β' H1 w',β,v,rfl,⟨rfl,rfl⟩,⟨fun b o e=>k8 s' (X.imm b o e),Nat.le_refl _,fun i x x' e=>by simp at e⟩,?_,(hf _ _ _ _ s' v hrep).none⟩
 have s2:=s'.all
 exact ⟨s2.env,s2.imm,fun i x e=>by simp at e,fun i j x e=>by simp [blkOf] at e,fun i x e=>by simp [blkOf] at e,s2.frm,fun i x e=>by simp [blkOf] at e⟩
def SelR (f : Nat -> Nat) (H : List Blk) : Nat -> List Blk -> Prop
 | _,[]=>True
 | i,x :: l=>lget H (f i) = some (x.ren f) /\ SelR f H (i + 1) l
theorem SelR.get {f : Nat -> Nat} {H : List Blk} : ∀ {l : List Blk} {i : Nat},SelR f H i l -> ∀ (j : Nat) x,l[j]? = some x -> lget H (f (i + j)) = some (x.ren f)
 | [],_,_,j,x,e=>by simp at e
 | y :: l,i,h,0,x,e=>by simp at e;subst e;exact h.1
 | y :: l,i,h,j + 1,x,e=>by
   have:=SelR.get h.2 j x (by simpa using e)
   rwa [Nat.add_right_comm] at this
structure qZ (H : List Blk) (r' r : AV) (Hn : List Blk) : Prop where
 o : ∃ l : List Nat,l.length = Hn.length /\ l.Nodup /\ SelR (rnF l) H 0 Hn /\ r' = r.ren (rnF l)
theorem qZ.mk' {H : List Blk} {r' r : AV} {Hn : List Blk} (l : List Nat) (h1 : l.length = Hn.length) (h2 : l.Nodup) (h3 : SelR (rnF l) H 0 Hn) (h4 : r' = r.ren (rnF l)) : qZ H r' r Hn:=⟨l,h1,h2,h3,h4⟩
theorem ke.body {f : FuncId} {fn : Func} {c : Code} {rs : List AV} {res : List ResultVar} {r : AV} (ok : zr P T) (own : List Nat) (hf : P.funcs[f]? = some fn) (hb : fn.body = some c) (hn : (fn.name == "runtime.NumGoroutine") = false)
  (hN : fn.ntmps = N) (hr : fn.results = res.toArray) (hl : rs.length <= N) (lo : lowL 0 rs = true) (lr : r.low Hn.length = true) (lH : ∀ x ∈ Hn,x.low Hn.length = true)
  (x : XRun P T N none own c (XIn T res fun r' H'=>qZ H' r' r Hn) [] (argX rs) []) : ke P f rs r Hn:=by
 refine ⟨lo,lr,lH,?_⟩
 obtain ⟨h1,h2⟩:=zE.inl ok own hf hb hn hN hr hl x
 refine ⟨h1,fun E h β w vs s hrs=>(h2 E h β w vs s hrs).mono ?_⟩
 rintro e w' ⟨r',H',h',β',v,rfl,⟨l,g1,g2,g3,g4⟩,X,s',hrep⟩
 have inj : ∀ i j,i < Hn.length -> j < Hn.length -> rnF l i = rnF l j -> i = j:=by
  intro i j hi hj e
  unfold rnF at e
  rw [zl,zl,List.getElem?_eq_getElem (by omega),List.getElem?_eq_getElem (by omega)] at e
  exact (List.getElem_inj g2).1 e
 have R : Ren (rnF l) (fun i=>β' (rnF l i)) Hn β' H':=⟨fun i x e=>by
  have:=g3.get i x e
  rw [Nat.zero_add,zl] at this;exact this,fun _ _=>rfl⟩
 exact ⟨r,Hn,h',_,v,rfl,⟨rfl,rfl⟩,⟨X.imm,Nat.zero_le _,fun i x x' e=>by simp at e⟩,R.sr s' inj lH,R.unrep hrep g4.symm lr⟩
theorem Walk.nilcell {c : Code} {Q : Post} (j o : Nat) (te : TypeId) {cs : List AV} (hj : lget H j = some (.cells cs)) (hc : lget cs o = some (.sl true [])) (x : Walk P N ρ c Q D σ (H.set j (.cells (cs.set o (.gr H.length 0))) ++ [.grow te true []])) : Walk P N ρ c Q D σ H:=by
 constructor
 intro E h β a w s
 rw [zl] at hj hc
 have hlt:=(List.getElem?_eq_some_iff.1 hj).1
 have hlo:=(List.getElem?_eq_some_iff.1 hc).1
 obtain ⟨s1,X1⟩:=s.sr.push (w':=w) s.sr.env (fun _ _=>rfl) (.slice none 0 0) (.grow te true []) (by intro b hb;simp [anchor] at hb) (fun _=>.inl ⟨rfl,rfl,by simp [upb]⟩)
 have hj1 : (H ++ [Blk.grow te true []])[j]? = some (.cells cs):=by rw [List.getElem?_append_left hlt];exact hj
 obtain ⟨s2,X2⟩:=s1.modify (β':=upb β H.length (.slice none 0 0)) (w':=w) (x':=.cells (cs.set o (.gr H.length 0))) hj1 (fun _ _=>rfl) (.inr ⟨_,rfl,rfl⟩) s1.env (fun _ _ _=>rfl) (fun b e=>.inl (by unfold blkOf;rw [hj1];exact e)) (fun X=>by
  obtain ⟨b,c,t,h1,h2,h3,h4,us,h5,h6⟩:=s1.blk j _ hj1
  refine ⟨b,c,t,h1,h2,by rw [List.length_set];exact h3,fun y hy=>?_,us,fun i y e=>?_,fun i y e=>?_⟩
  ·rcases List.mem_or_eq_of_mem_set hy with hy | rfl
   ·exact h4 y hy
   ·rfl
  ·by_cases hio : o = i
   ·subst hio;exact h5 o _ hc
   ·rw [List.getElem?_set_ne hio] at e;exact h5 i y e
  ·by_cases hio : o = i
   ·subst hio
    rw [List.getElem?_set_self hlo] at e;cases e
    have h7:=h6 o _ hc
    cases h : us o <;> rw [h] at h7 <;> cases h7
    refine .gr rfl ⟨_,by rw [List.getElem?_set_ne (by omega),List.getElem?_append_right (Nat.le_refl _),Nat.sub_self];rfl,rfl⟩ fun t' nl els e=>?_
    rw [List.getElem?_set_ne (by omega),List.getElem?_append_right (Nat.le_refl _),Nat.sub_self] at e
    simp at e;obtain ⟨_,_,rfl⟩:=e
    exact ⟨Nat.le_refl _,fun _=>by simp [upb]⟩
   ·rw [List.getElem?_set_ne hio] at e;exact X.rep (h6 i y e))
 rw [List.set_append_left _ _ hlt] at s2 X2
 exact wpIn_mono (x.o E h _ a w ⟨s2,fun u r e=>let ⟨v,h1,h2⟩:=s.fits u r e;⟨v,h1,(X1.trans X2).rep h2⟩,s.size,s.df.ext (X1.trans X2)⟩) fun _ _ _=>Conc.ext (X1.trans X2)
noncomputable def yI (n : Nat) (h : Nat -> Option Obj) (β : Nat -> Value) (H : List Blk) (w : World) : Nat -> Option Obj:=by
 classical exact fun b=>if ∃ i,n <= i /\ blkOf β H i = some b then w.heap[b]? else h b
theorem gX {n b i : Nat} (hi : n <= i) (e : blkOf β H i = some b) : yI n h β H w b = w.heap[b]?:=by
 unfold yI;rw [if_pos ⟨i,hi,e⟩]
theorem km {n : Nat} (s : SR P E h β H w) {b : Nat} {o : Obj} (e : h b = some o) : yI n h β H w b = some o:=by
 unfold yI;split
 ·rename_i hh;obtain ⟨i,_,hi⟩:=hh;rw [s.fresh _ _ hi] at e;cases e
 ·exact e
theorem SR.allN {H1 l : List Blk} (s : SR P E h β (H1 ++ l) w) (lo : ∀ x ∈ H1,x.low H1.length = true) : SR P E (yI H1.length h β (H1 ++ l) w) β H1 w:=by
 have s1:=s.cut lo
 have hb : ∀ i,i < H1.length -> blkOf β H1 i = blkOf β (H1 ++ l) i:=fun i hi=>by unfold blkOf;rw [List.getElem?_append_left hi]
 have hlt : ∀ {i x},blkOf β H1 i = some x -> i < H1.length:=fun e=>(z8 e).1
 have X : Ext h β H1 (yI H1.length h β (H1 ++ l) w) β H1:=⟨fun b o e=>km s e,Nat.le_refl _,fun i x x' e e'=>by rw [e] at e';cases e';exact Blk.to_refl _ _ _⟩
 refine ⟨s1.env,fun b o e=>?_,fun i x e=>(s1.blk i x e).keep X rfl (fun _ _ _ _=>rfl),s1.own,fun i x e=>?_,fun b o e=>⟨(s.frm b o e).1,?_⟩,s1.fro⟩
 ·unfold yI at e;split at e
  ·exact e
  ·exact s.imm b o e
 ·have hi:=hlt e
  unfold yI;rw [if_neg]
  ·exact s1.fresh i x e
  ·rintro ⟨j,hj,hj2⟩
   have:=s.own i j x (by rw [<- hb i hi];exact e) hj2
   omega
 ·unfold yI;rw [if_neg]
  ·exact (s.frm b o e).2
  ·rintro ⟨j,hj,hj2⟩
   rw [s.fro _ _ hj2] at e;cases e
def yD (P : Program) (n : Nat) (H : List Blk) (r r' : AV) : Prop:=
 ∀ E h β w,SR P E h β H w -> ∀ v,Rep P h β H r v -> ∀ H1 : List Blk,Rep P (yI n h β H w) β H1 r' v
def jz (P : Program) (n : Nat) (H : List Blk) (rs rs' : List AV) : Prop:=rs'.length = rs.length /\ ∀ (j : Nat) x,rs'[j]? = some x -> ∃ y,rs[j]? = some y /\ yD P n H y x
theorem yD.low {n : Nat} {r : AV} (hl : r.low 0 = true) : yD P n H r r:=by
 intro E h β w s v hr H1
 have h0 : Rep P h β [] r v:=Rep.cut (H:=[]) (l:=H) hr hl
 have X : Ext h β [] (yI n h β H w) β []:=⟨fun b o e=>km s e,Nat.le_refl _,by simp⟩
 exact (X.rep h0).none
theorem jz.nil {n : Nat} : jz P n H [] []:=⟨rfl,by simp⟩
theorem jz.cons {n : Nat} {r r' : AV} {rs rs' : List AV} (h1 : yD P n H r r') (h2 : jz P n H rs rs') : jz P n H (r :: rs) (r' :: rs'):=by
 refine ⟨by simp [h2.1],fun j x e=>?_⟩
 cases j with
 | zero=>simp at e;subst e;exact ⟨r,rfl,h1⟩
 | succ j=>exact h2.2 j x (by simpa using e)
theorem yD.tup {n : Nat} {rs rs' : List AV} (hs : jz P n H rs rs') : yD P n H (.tup rs) (.tup rs'):=by
 intro E h β w s v hr H1
 cases hr with
 | tup us h1 h2 h3 =>
   refine .tup us (by rw [h1,hs.1]) (fun j x e=>?_) (fun j x e=>?_)
   ·obtain ⟨y,e1,_⟩:=hs.2 j x e;exact h2 j y e1
   ·obtain ⟨y,e1,e2⟩:=hs.2 j x e;exact e2 E h β w s _ (h3 j y e1) H1
theorem yD.agg {n : Nat} {rs rs' : List AV} (hone : ∀ x ∈ rs',x.one = true) (hs : jz P n H rs rs') : yD P n H (.agg rs) (.agg rs'):=by
 intro E h β w s v hr H1
 cases hr with
 | agg us h1 h0 h2 h3 =>
   refine .agg us (by rw [h1,hs.1]) hone (fun j x e=>?_) (fun j x e=>?_)
   ·obtain ⟨y,e1,_⟩:=hs.2 j x e;exact h2 j y e1
   ·obtain ⟨y,e1,e2⟩:=hs.2 j x e;exact e2 E h β w s _ (h3 j y e1) H1
theorem yD.grow {n i m : Nat} {t : TypeId} {nl : Bool} {els : List AV} (hi : n <= i) (hb : lget H i = some (.grow t nl els)) (hn : els.length = m) (hl : lowL 0 els = true) : yD P n H (.gr i m) (.sl nl els):=by
 have hb':=hb;rw [zl] at hb'
 intro E h β w s v hr H1
 cases hr with
 | gr ho hlv hv =>
   obtain ⟨h1,h2⟩:=hv _ _ _ hb'
   have hβ:=h2 hn
   subst hβ
   rcases s.blk i _ hb' with ⟨rfl,rfl,h3⟩ | ⟨rfl,rfl,b,h3⟩ | ⟨rfl,b,cap,c,h3,h4,h5,h6,h7,h8,h9,h10,h11,us,h12,h13⟩
   ·rw [h3];exact .slnil
   ·rw [h3];exact .slemp
   ·rw [h3]
    cases els with
    | nil=>exact .slemp
    | cons e0 l0 =>
      have hbo : blkOf β H i = some b:=by simp only [blkOf,hb',h3,anchor];rw [if_neg (by omega)]
      refine .sl us rfl (by simp) ((gX hi hbo).trans h5) h10 h9 h11 h6 (fun j x e=>?_) (fun j x e=>?_)
      ·rw [Nat.zero_add];exact h12 j x e
      ·exact yD.low (zo.1 (by rw [zo];exact y8.1 hl) x (List.mem_of_getElem? e)) E h β w s _ (h13 j x e) H1
structure XEnd (P : Program) (n : Nat) (H : List Blk) (r' r : AV) (H1 : List Blk) : Prop where
 o : H.take n = H1 /\ H1.length = n /\ (∀ x ∈ H1,x.low n = true) /\ yD P n H r' r
theorem zE.bodyN {f : FuncId} {fn : Func} {c : Code} {rs : List AV} {res : List ResultVar} {r : AV} {H1 : List Blk} {k : AV -> List Blk -> Prop} (ok : zr P T) (own : List Nat) (hf : P.funcs[f]? = some fn) (hb : fn.body = some c) (hn : (fn.name == "runtime.NumGoroutine") = false)
  (hN : fn.ntmps = N) (hr : fn.results = res.toArray) (hl : rs.length <= N) (hk : k r H1)
  (x : XRun P T N none own c (XIn T res fun r' H'=>XEnd P H.length H' r' r H1) [] (argX rs) H) : zE P f rs H k:=by
 obtain ⟨h1,h2⟩:=zE.inl ok own hf hb hn hN hr hl x
 refine ⟨h1,fun E h β w vs s hrs=>(h2 E h β w vs s hrs).mono ?_⟩
 rintro e w' ⟨r',H',h',β',v,rfl,⟨g1,g2,g3,g4⟩,X,s',hrep⟩
 have hH : H' = H1 ++ H'.drop H.length:=by rw [<- g1,List.take_append_drop]
 rw [hH] at s' X hrep g4
 have s2:=s'.allN (by rw [g2];exact g3)
 have X2 : Ext h β H h' β' H1:=X.cut (by omega)
 rw [g2] at s2
 exact ⟨r,H1,_,β',v,rfl,hk,⟨fun b o e=>km s' (X2.imm b o e),by omega,X2.to⟩,s2,g4 E h' β' w' s' v hrep H1⟩
end
end GA
end
section
namespace GA
open Go Go.RowKit
section
variable {P : Program} {T : Tab} {N : Nat} {ρ : Option Nat} {H : List Blk} {σ : St} {D : List Nat}
theorem Walk.place {c : Code} {Q : Post} (x : Walk P N ρ c Q D σ (H ++ [.free])) : Walk P N ρ c Q D σ H:=by
 constructor
 intro E h β a w s
 obtain ⟨s',X⟩:=s.sr.push (w':=w) s.sr.env (fun _ _=>rfl) (.pointer none) .free (by intro b hb;simp [anchor] at hb) (fun _=>trivial)
 exact wpIn_mono (x.o E h _ a w ⟨s',fun u r e=>let ⟨v,h1,h2⟩:=s.fits u r e;⟨v,h1,X.rep h2⟩,s.size,s.df.ext X⟩) fun _ _ _=>Conc.ext X
theorem XFree.at {H : List Blk} {b : Blk} {k : Nat -> List Blk -> Prop} (i : Nat) (h1 : lget H i = some .free) (h2 : hset H i b fun H'=>k i H') : XFree H b k:=⟨i,h1,h2⟩
end
end GA
end
section
namespace GA
open Go Go.RowKit
section
variable {P : Program} {N : Nat} {ρ : Option Nat} {E : Env} {h h' : Nat -> Option Obj} {β : Nat -> Value} {H H' : List Blk} {w : World} {σ : St}
theorem gy (s : SR P E h β H w) {i n : Nat} {t : TypeId} {nl : Bool} {els : List AV} (hi : H[i]? = some (.grow t nl els)) (hn : els.length = n) {v : Value} (hr : Rep P h β H (.gr i n) v) (X : Ext h β H h' β H')
  (hfz : ∀ b o,blkOf β H i = some b -> w.heap[b]? = some o -> h' b = some o) : Rep P h' β H' (.sl nl els) v:=by
 cases hr with
 | gr ho hl hv =>
   obtain ⟨_,h2⟩:=hv _ _ _ hi
   have hβ:=h2 hn
   subst hβ
   rcases s.blk i _ hi with ⟨rfl,rfl,h3⟩ | ⟨rfl,rfl,b,h3⟩ | ⟨rfl,b,cap,c,h3,h4,h5,h6,h7,h8,h9,h10,h11,us,h12,h13⟩
   ·rw [h3];exact .slnil
   ·rw [h3];exact .slemp
   ·rw [h3]
    cases els with
    | nil=>exact .slemp
    | cons e0 l0 =>
      have hbo : blkOf β H i = some b:=by simp only [blkOf,hi,h3,anchor];rw [if_neg (by omega)]
      exact .sl us rfl (by simp) (hfz b _ hbo h5) h10 h9 h11 h6 (fun j x e=>by rw [Nat.zero_add];exact h12 j x e) (fun j x e=>X.rep (h13 j x e))
theorem Walk.freeze {c : Code} {Q : Post} {D : List Nat} (u i n : Nat) {t : TypeId} {nl : Bool} {els : List AV} (hu : σ u = some (.gr i n)) (hi : lget H i = some (.grow t nl els)) (hn : els.length = n) (x : Walk P N ρ c Q D (updX σ u (.sl nl els)) (H.set i .dead)) : Walk P N ρ c Q D σ H:=by
 constructor
 intro E h β a w s
 rw [zl] at hi
 obtain ⟨h',s1,X,hfz⟩:=s.sr.freeze hi
 refine wpIn_mono (x.o E h' _ a w ⟨s1,fun t' r e=>?_,s.size,s.df.ext X⟩) fun _ _ _=>Conc.ext X
 rw [yl] at e;unfold upd at e
 split at e
 ·rename_i hh;subst hh;cases e
  obtain ⟨v,h1,h2⟩:=s.fits _ _ hu
  exact ⟨v,h1,gy s.sr hi hn h2 X hfz⟩
 ·obtain ⟨v,h1,h2⟩:=s.fits t' r e
  exact ⟨v,h1,X.rep h2⟩
theorem Walk.freezeCell {c : Code} {Q : Post} {D : List Nat} (j o i n : Nat) {cs : List AV} {t : TypeId} {nl : Bool} {els : List AV} (hj : lget H j = some (.cells cs)) (hc : lget cs o = some (.gr i n)) (hi : lget H i = some (.grow t nl els)) (hn : els.length = n)
  (x : Walk P N ρ c Q D σ ((H.set i .dead).set j (.cells (cs.set o (.sl nl els))))) : Walk P N ρ c Q D σ H:=by
 constructor
 intro E h β a w s
 rw [zl] at hi hj hc
 have hlo:=(List.getElem?_eq_some_iff.1 hc).1
 have hij : i ≠ j:=by rintro rfl;rw [hi] at hj;cases hj
 obtain ⟨h',s1,X1,hfz⟩:=s.sr.freeze hi
 have hj1 : (H.set i .dead)[j]? = some (.cells cs):=by rw [List.getElem?_set_ne hij];exact hj
 obtain ⟨s2,X2⟩:=s1.modify (β':=β) (w':=w) (x':=.cells (cs.set o (.sl nl els))) hj1 (fun _ _=>rfl) (.inr ⟨_,rfl,rfl⟩) s1.env (fun _ _ _=>rfl) (fun b e=>.inl (by unfold blkOf;rw [hj1];exact e)) (fun X=>by
  obtain ⟨b,c,t,h1,h2,h3,h4,us,h5,h6⟩:=s.sr.blk j _ hj
  refine ⟨b,c,t,h1,h2,by rw [List.length_set];exact h3,fun y hy=>?_,us,fun i y e=>?_,fun i y e=>?_⟩
  ·rcases List.mem_or_eq_of_mem_set hy with hy | rfl
   ·exact h4 y hy
   ·rfl
  ·by_cases hio : o = i
   ·subst hio;exact h5 o _ hc
   ·rw [List.getElem?_set_ne hio] at e;exact h5 i y e
  ·by_cases hio : o = i
   ·subst hio
    rw [List.getElem?_set_self hlo] at e;cases e
    exact gy s.sr hi hn (h6 o _ hc) (X1.trans X) hfz
   ·rw [List.getElem?_set_ne hio] at e;exact (X1.trans X).rep (h6 i y e))
 exact wpIn_mono (x.o E h' _ a w ⟨s2,fun u r e=>let ⟨v,h1,h2⟩:=s.fits u r e;⟨v,h1,(X1.trans X2).rep h2⟩,s.size,s.df.ext (X1.trans X2)⟩) fun _ _ _=>Conc.ext (X1.trans X2)
inductive FrzV (i n : Nat) (nl : Bool) (els : List AV) : AV -> AV -> Prop
 | same {x : AV} : FrzV i n nl els x x
 | gr : FrzV i n nl els (.gr i n) (.sl nl els)
 | agg {cs cs' : List AV} (hl : cs'.length = cs.length) (hone : ∀ x ∈ cs',x.one = true) (ho : ∀ (j : Nat) x',cs'[j]? = some x' -> ∃ x,cs[j]? = some x /\ (x' = x \/ (x = .gr i n /\ x' = .sl nl els))) : FrzV i n nl els (.agg cs) (.agg cs')
structure FrzL (i n : Nat) (nl : Bool) (els : List AV) (rs rs' : List AV) : Prop where
 l : rs'.length = rs.length
 o : ∀ (j : Nat) x',rs'[j]? = some x' -> ∃ x,rs[j]? = some x /\ FrzV i n nl els x x'
structure FrzC (i n : Nat) (nl : Bool) (els : List AV) (rs rs' : List AV) : Prop where
 l : rs'.length = rs.length
 o : ∀ (j : Nat) x',rs'[j]? = some x' -> ∃ x,rs[j]? = some x /\ (x' = x \/ (x = .gr i n /\ x' = .sl nl els))
section
variable {i n : Nat} {nl : Bool} {els : List AV}
theorem FrzC.nil : FrzC i n nl els [] []:=⟨rfl,by simp⟩
theorem FrzC.cons {x y : AV} {rs rs' : List AV} (hx : y = x \/ (x = .gr i n /\ y = .sl nl els)) (h : FrzC i n nl els rs rs') : FrzC i n nl els (x :: rs) (y :: rs'):=by
 refine ⟨by simp [h.l],fun j z e=>?_⟩
 cases j with
 | zero=>simp at e;subst e;exact ⟨_,rfl,hx⟩
 | succ j=>exact h.o j z (by simpa using e)
theorem FrzC.same {x : AV} {rs rs' : List AV} (h : FrzC i n nl els rs rs') : FrzC i n nl els (x :: rs) (x :: rs'):=.cons (.inl rfl) h
theorem FrzC.gr {rs rs' : List AV} (h : FrzC i n nl els rs rs') : FrzC i n nl els (.gr i n :: rs) (.sl nl els :: rs'):=.cons (.inr ⟨rfl,rfl⟩) h
theorem FrzL.nil : FrzL i n nl els [] []:=⟨rfl,by simp⟩
theorem FrzL.cons {x y : AV} {rs rs' : List AV} (hx : FrzV i n nl els x y) (h : FrzL i n nl els rs rs') : FrzL i n nl els (x :: rs) (y :: rs'):=by
 refine ⟨by simp [h.l],fun j z e=>?_⟩
 cases j with
 | zero=>simp at e;subst e;exact ⟨_,rfl,hx⟩
 | succ j=>exact h.o j z (by simpa using e)
theorem FrzL.same {x : AV} {rs rs' : List AV} (h : FrzL i n nl els rs rs') : FrzL i n nl els (x :: rs) (x :: rs'):=.cons .same h
theorem FrzL.gr {rs rs' : List AV} (h : FrzL i n nl els rs rs') : FrzL i n nl els (.gr i n :: rs) (.sl nl els :: rs'):=.cons .gr h
theorem FrzL.agg {cs cs' rs rs' : List AV} (hone : ∀ x ∈ cs',x.one = true) (hc : FrzC i n nl els cs cs') (h : FrzL i n nl els rs rs') : FrzL i n nl els (.agg cs :: rs) (.agg cs' :: rs'):=.cons (.agg hc.l hone hc.o) h
theorem FrzV.rep (s : SR P E h β H w) {t : TypeId} (hi : H[i]? = some (.grow t nl els)) (hn : els.length = n) (X : Ext h β H h' β H') (hfz : ∀ b o,blkOf β H i = some b -> w.heap[b]? = some o -> h' b = some o) {x y : AV} (hv : FrzV i n nl els x y) {v : Value} (hr : Rep P h β H x v) : Rep P h' β H' y v:=by
 cases hv with
 | same=>exact X.rep hr
 | gr=>exact gy s hi hn hr X hfz
 | agg hl hone ho =>
   cases hr with
   | agg us h1 h2 h3 h4 =>
     refine .agg us (by rw [h1,hl]) hone (fun j x e=>?_) (fun j x e=>?_)
     ·obtain ⟨z,e1,_⟩:=ho j x e;exact h3 j z e1
     ·obtain ⟨z,e1,e2⟩:=ho j x e
      rcases e2 with rfl | ⟨rfl,rfl⟩
      ·exact X.rep (h4 j _ e1)
      ·exact gy s hi hn (h4 j _ e1) X hfz
end
theorem zf.frz {f : FuncId} {rs rs' : List AV} {k : AV -> List Blk -> Prop} (i n : Nat) {t : TypeId} {nl : Bool} {els : List AV} (hi : lget H i = some (.grow t nl els)) (hn : els.length = n) (hv : FrzL i n nl els rs rs')
  (H' : List Blk) (hH : ∀ E h β w,SR P E h β H w -> ∀ h',SR P E h' β (H.set i .dead) w -> Ext h β H h' β (H.set i .dead) -> (∀ b o,blkOf β H i = some b -> w.heap[b]? = some o -> h' b = some o) -> SR P E h' β H' w /\ Ext h β H h' β H') (x : zf P f rs' H' k) : zf P f rs H k:=by
 rw [zl] at hi
 refine ⟨x.o.1,fun E h β w vs s hr=>?_⟩
 obtain ⟨h',s1,X,hfz⟩:=s.freeze hi
 obtain ⟨s2,X2⟩:=hH E h β w s h' s1 X hfz
 have hr' : RepL P h' β H' rs' vs:=⟨by rw [hv.l];exact hr.1,fun j y e=>by
  obtain ⟨z,e1,e2⟩:=hv.o j y e
  obtain ⟨v,e3,e4⟩:=hr.2 j z e1
  exact ⟨v,e3,e2.rep s hi hn X2 hfz e4⟩⟩
 refine (x.o.2 E h' β w vs s2 hr').mono ?_
 rintro e w' ⟨r,H'',h'',β'',v,e1,e2,e3,e4⟩
 exact ⟨r,H'',h'',β'',v,e1,e2,X2.trans e3,e4⟩
theorem zf.freeze {f : FuncId} {rs rs' : List AV} {k : AV -> List Blk -> Prop} (i n : Nat) {t : TypeId} {nl : Bool} {els : List AV} (hi : lget H i = some (.grow t nl els)) (hn : els.length = n) (hv : FrzL i n nl els rs rs')
  (x : zf P f rs' (H.set i .dead) k) : zf P f rs H k:=
 .frz i n hi hn hv _ (fun _ _ _ _ _ _ s X _=>⟨s,X⟩) x
theorem zf.freezeCell {f : FuncId} {rs rs' : List AV} {k : AV -> List Blk -> Prop} (j o i n : Nat) {cs : List AV} {t : TypeId} {nl : Bool} {els : List AV} (hj : lget H j = some (.cells cs)) (hc : lget cs o = some (.gr i n)) (hi : lget H i = some (.grow t nl els)) (hn : els.length = n)
  (hv : FrzL i n nl els rs rs') (x : zf P f rs' ((H.set i .dead).set j (.cells (cs.set o (.sl nl els)))) k) : zf P f rs H k:=by
 refine .frz i n hi hn hv _ (fun E h β w s h' s1 X1 hfz=>?_) x
 rw [zl] at hi hj hc
 have hlo:=(List.getElem?_eq_some_iff.1 hc).1
 have hij : i ≠ j:=by rintro rfl;rw [hi] at hj;cases hj
 have hj1 : (H.set i .dead)[j]? = some (.cells cs):=by rw [List.getElem?_set_ne hij];exact hj
 obtain ⟨s2,X2⟩:=s1.modify (β':=β) (w':=w) (x':=.cells (cs.set o (.sl nl els))) hj1 (fun _ _=>rfl) (.inr ⟨_,rfl,rfl⟩) s1.env (fun _ _ _=>rfl) (fun b e=>.inl (by unfold blkOf;rw [hj1];exact e)) (fun X=>by
  obtain ⟨b,c,t,h1,h2,h3,h4,us,h5,h6⟩:=s.blk j _ hj
  refine ⟨b,c,t,h1,h2,by rw [List.length_set];exact h3,fun y hy=>?_,us,fun i y e=>?_,fun i y e=>?_⟩
  ·rcases List.mem_or_eq_of_mem_set hy with hy | rfl
   ·exact h4 y hy
   ·rfl
  ·by_cases hio : o = i
   ·subst hio;exact h5 o _ hc
   ·rw [List.getElem?_set_ne hio] at e;exact h5 i y e
  ·by_cases hio : o = i
   ·subst hio
    rw [List.getElem?_set_self hlo] at e;cases e
    exact gy s hi hn (h6 o _ hc) (X1.trans X) hfz
   ·rw [List.getElem?_set_ne hio] at e;exact (X1.trans X).rep (h6 i y e))
 exact ⟨s2,X1.trans X2⟩
end
end GA
end
section
namespace GA
open Go Go.RowKit
section
variable {F : Fence} {n : Nat} {P : Program} {Q : Exit -> Act -> World -> Prop} {a : Act} {w : World}
theorem yr {b : Frame} {k : List Item} {cs : List Frame} {c : Code} : step P (lone (b.atR a (.code (.scope c) :: k)) cs w) = .next (lone (b.atR a (.code c :: .inScope c :: k)) cs w):=
 step_lone_go (by simp [stepG,stepG.exec,Frame.atR])
theorem gE {b : Frame} {k : List Item} {cs : List Frame} {c : Code} : step P (lone (b.atR a (.inScope c :: k)) cs w) = .next (lone (b.atR a k) cs w):=
 step_lone_go (by simp [stepG,stepG.exec,Frame.atR])
theorem zbC {c : Code} (h : c.wpIn F n P (Exit.noGoto Q) a w) : (Code.scope c).wpIn F n P Q a w:=by
 intro b k cs hro hb hr
 have h0 : (lone (b.atR a (.code (.scope c) :: k)) cs w).fenced P F:=fenced_calm hb hr rfl
 obtain ⟨e,a₁,w₁,hq,harr⟩:=h b (.inScope c :: k) cs hro hb hr
 cases e with
 | normal=>exact ⟨.normal,a₁,w₁,hq,.head h0 yr (StepsIn.trans harr (.one (fenced_calm hb hr rfl) gE))⟩
 | exit id =>
   have hx : exitTo id (.inScope c :: k) = exitTo id k:=by simp [exitTo]
   exact ⟨.exit id,a₁,w₁,hq,fun k' hk=>.head h0 yr (harr.1 k' (by rw [hx];exact hk)),
    fun hr' hk=>let ⟨k₁,h1,h2⟩:=harr.2 hr' (by rw [hx];exact hk);⟨k₁,h1,.head h0 yr h2⟩⟩
 | goto l=>exact hq.elim
 | ret=>exact ⟨_,a₁,w₁,hq,.of_steps (.one h0 yr) harr⟩
 | panic ch=>exact ⟨_,a₁,w₁,hq,.of_steps (.one h0 yr) harr⟩
 | outgrown=>exact ⟨_,a₁,w₁,hq,.of_steps (.one h0 yr) harr⟩
end
section
variable {P : Program} {T : Tab} {N : Nat} {ρ : Option Nat} {D : List Nat} {σ : St} {H : List Blk} {Q : Post} {own : List Nat}
def scopeX (Q : Post) : Post
 | .goto _,_,_,_=>False
 | e,D,σ,H=>Q e D σ H
theorem Walk.scope {c : Code} (ok : zr P T) (own : List Nat) (x : XRun P T N ρ own c (scopeX Q) D σ H) : Walk P N ρ (.scope c) Q D σ H:=by
 constructor
 intro E h β a w s
 refine zbC (wpIn_mono (XRun.sound ok x E h β a w s) ?_)
 rintro e a' w' ⟨D',σ',H',h',β',q,X,s'⟩
 cases e with
 | goto l=>exact q.elim
 | _=>exact ⟨D',σ',H',h',β',q,X,s'⟩
theorem Walk.label {l : Nat} (x : Q .normal D σ H) : Walk P N ρ (.label l) Q D σ H:=
 ⟨fun E h β a w s=>wpIn_label ⟨D,σ,H,h,β,x,Ext.refl _ _ _,s⟩⟩
end
end GA
end
section
namespace GA
open Go Go.RowKit
section
variable {P : Program} {T : Tab} {N : Nat} {ρ : Option Nat} {D : List Nat} {σ : St} {H : List Blk} {Q : Post}
def vN (P : Program) (n : Nat) (H : List Blk) (r r' : AV) : Prop:=yD P n H r r' \/ (r' = r /\ r.low n = true)
theorem vN.same {n : Nat} {r : AV} (h : r.low n = true) : vN P n H r r:=.inr ⟨rfl,h⟩
theorem vN.gr {n i m : Nat} {t : TypeId} {nl : Bool} {els : List AV} (hi : n <= i) (hb : lget H i = some (.grow t nl els)) (hn : els.length = m) (hl : lowL 0 els = true) : vN P n H (.gr i m) (.sl nl els):=.inl (.grow hi hb hn hl)
def SubF (P : Program) (n : Nat) (H : List Blk) : List (Nat × AV) -> St -> Prop
 | [],_=>True
 | (t,r') :: l,σ=>(∃ r,σ t = some r /\ vN P n H r r') /\ SubF P n H l σ
theorem zbg {n : Nat} : ∀ {l : List (Nat × AV)} {σ : St},SubF P n H l σ -> ∀ t r,stX l t = some r -> ∃ r0,σ t = some r0 /\ vN P n H r0 r
 | [],_,_,_,_,e=>by cases e
 | (u,x) :: l,σ,h,t,r,e=>by
   simp only [stX,yl,upd] at e
   split at e
   ·rename_i h1;subst h1;cases e;exact h.1
   ·exact zbg h.2 t r e
structure XAgainF {G : Type} (P : Program) (I : G -> Prop) (L : G -> List (Nat × AV)) (hp : G -> List Blk) (μ : G -> Nat) (g : G) (D' : List Nat) (σ' : St) (H' : List Blk) : Prop where
 d : D' = []
 o : ∃ g' l,I g' /\ μ g' < μ g /\ hp g' ++ l = H' /\ SubF P (hp g').length H' (L g') σ'
theorem XAgainF.go {G : Type} {I : G -> Prop} {L : G -> List (Nat × AV)} {hp : G -> List Blk} {μ : G -> Nat} {g : G} (g' : G) (l : List Blk) (h1 : I g') (h2 : μ g' < μ g) (h3 : hp g' ++ l = H) (h4 : SubF P (hp g').length H (L g') σ) : XAgainF P I L hp μ g [] σ H:=⟨rfl,g',l,h1,h2,h3,h4⟩
theorem Walk.keep {c : Code} (ok : zr P T) (own : List Nat) (H1 l : List Blk) (L : List (Nat × AV)) (hH : H1 ++ l = H) (hlow : ∀ x ∈ H1,x.low H1.length = true) (hs : SubF P H1.length H L σ) (hD : D = []) (x : XRun P T N ρ own c Q D (stX L) (H1 ++ l.map fun _=>.dead)) : Walk P N ρ c Q D σ H:=by
 subst hH;subst hD
 constructor
 intro E h β a w s
 have hd : ∀ (l : List Blk) (i : Nat) x,(l.map fun _=>Blk.dead)[i]? = some x -> x = .dead:=fun l i x e=>by
  rw [List.getElem?_map] at e
  cases hx : l[i]? with
  | none=>rw [hx] at e;cases e
  | some y=>rw [hx] at e;cases e;rfl
 have hlen : (l.map fun _=>Blk.dead).length = l.length:=List.length_map _
 have X : Ext h β (H1 ++ l) (yI H1.length h β (H1 ++ l) w) β (H1 ++ l.map fun _=>.dead):=by
  refine ⟨fun b o e=>km s.sr e,by simp,fun i x x' e e'=>?_⟩
  by_cases hi : i < H1.length
  ·rw [List.getElem?_append_left hi] at e e'
   rw [e] at e';cases e';exact Blk.to_refl _ _ _
  ·rw [List.getElem?_append_right (by omega)] at e'
   have:=hd _ _ _ e'
   subst this
   cases x <;> first | rfl | trivial|exact .inl rfl
 have s1:=s.sr.allN hlow
 have X1 : Ext (yI H1.length h β (H1 ++ l) w) β H1 (yI H1.length h β (H1 ++ l) w) β (H1 ++ l.map fun _=>.dead):=
  ⟨fun _ _ e=>e,by simp,fun i x x' e e'=>by rw [List.getElem?_append_left (List.getElem?_eq_some_iff.1 e).1,e] at e';cases e';exact Blk.to_refl _ _ _⟩
 have hbo : ∀ i b,blkOf β (H1 ++ l.map fun _=>.dead) i = some b -> blkOf β H1 i = some b:=fun i b e=>by
  have hlt:=(z8 e).1
  by_cases hi : i < H1.length
  ·rw [<- e];exact (yq rfl (List.getElem?_append_left hi)).symm
  ·exfalso
   unfold blkOf at e
   cases hx : (H1 ++ l.map fun _=>Blk.dead)[i]? with
   | none=>rw [hx] at e;cases e
   | some x =>
     rw [hx] at e
     rw [List.getElem?_append_right (by omega)] at hx
     have:=hd _ _ _ hx
     subst this;cases e
 have s2 : SR P E (yI H1.length h β (H1 ++ l) w) β (H1 ++ l.map fun _=>.dead) w:=by
  refine s1.grown X1 s1.env s1.imm (fun i x e=>?_) (fun i j b e1 e2=>s1.own i j b (hbo _ _ e1) (hbo _ _ e2)) (fun i b e=>s1.fresh i b (hbo _ _ e)) s1.frm (fun i b e=>s1.fro i b (hbo _ _ e))
  by_cases hi : i < H1.length
  ·rw [List.getElem?_append_left hi] at e;exact .inl ⟨e,rfl,fun _ _=>rfl⟩
  ·rw [List.getElem?_append_right (by omega)] at e
   have:=hd _ _ _ e
   subst this;exact .inr trivial
 refine wpIn_mono (XRun.sound ok x E _ β a w ⟨s2,fun t r e=>?_,s.size,s.df.ext X⟩) fun _ _ _=>Conc.ext X
 obtain ⟨r0,e1,e2⟩:=zbg hs t r e
 obtain ⟨v,h1,h2⟩:=s.fits t r0 e1
 rcases e2 with e2 | ⟨rfl,e2⟩
 ·exact ⟨v,h1,e2 E h β w s.sr v h2 _⟩
 ·refine ⟨v,h1,X1.rep (Rep.cut (l:=l) ?_ e2)⟩
  have XA : Ext h β (H1 ++ l) (yI H1.length h β (H1 ++ l) w) β (H1 ++ l):=⟨fun b o e=>km s.sr e,Nat.le_refl _,fun i x x' e e'=>by rw [e] at e';cases e';exact Blk.to_refl _ _ _⟩
  exact XA.rep h2
end
end GA
end
section
namespace GA
open Go Go.RowKit Go.Proofs
section
variable {P : Program} {E : Env} {h : Nat -> Option Obj} {β : Nat -> Value} {H : List Blk} {w w' : World} {ρ : Go.Shelf.Ren}
theorem yg (b : Nat) : ∀ (vs : List Value) (o : Nat) (w : World),World.env (w.setCells b o vs) = World.env w
 | [],_,_=>rfl
 | v :: r,o,w=>by rw [World.setCells,yg b r];rfl
theorem zQ (b : Nat) : ∀ (vs : List Value) (o : Nat) (w : World) (k : Nat),k ≠ b -> (w.setCells b o vs).heap[k]? = w.heap[k]?
 | [],_,_,_,_=>rfl
 | v :: r,o,w,k,hk=>by
   rw [World.setCells,zQ b r _ _ k hk]
   simp only [World.setCell,Array.getElem?_modify]
   rw [if_neg (fun e=>hk e.symm)]
theorem zY (b : Nat) {t : TypeId} {fz : Nat × Nat} : ∀ (vs : List Value) (o : Nat) (w : World) (c : Array Value),w.heap[b]? = some (.cells c t fz) -> o + vs.length <= c.size ->
  ∃ c',(w.setCells b o vs).heap[b]? = some (.cells c' t fz) /\ c'.size = c.size /\ ∀ q,c'[q]? = if o <= q /\ q < o + vs.length then vs[q - o]? else c[q]?
 | [],o,w,c,hb,_=>⟨c,hb,rfl,fun q=>by rw [if_neg (fun e=>by have:=e.2;simp at this;omega)]⟩
 | v :: r,o,w,c,hb,hl=>by
   simp only [List.length_cons] at hl
   have h1 : (w.setCell ⟨b,o,none⟩ v).heap[b]? = some (.cells (c.setIfInBounds o v) t fz):=by
    simp only [World.setCell,Array.getElem?_modify]
    simp [hb]
   obtain ⟨c',a1,a2,a3⟩:=zY b r (o + 1) _ _ h1 (by simp;omega)
   refine ⟨c',a1,by simpa using a2,fun q=>?_⟩
   rw [a3]
   by_cases h0 : q = o
   ·subst h0
    rw [if_neg (by omega),if_pos (by simp),Nat.sub_self,Array.getElem?_setIfInBounds,if_pos rfl,if_pos (by omega)]
    rfl
   ·by_cases h2 : o + 1 <= q /\ q < o + 1 + r.length
    ·rw [if_pos h2,if_pos (by simp only [List.length_cons];omega)]
     obtain ⟨d,rfl⟩ : ∃ d,q = o + 1 + d:=⟨q - (o + 1),by omega⟩
     rw [show o + 1 + d - (o + 1) = d by omega,show o + 1 + d - o = d + 1 by omega,List.getElem?_cons_succ]
    ·rw [if_neg h2,if_neg (by simp only [List.length_cons];omega),Array.getElem?_setIfInBounds,if_neg (fun e=>h0 e.symm)]
def vX (ys : List Int) (p : Nat) (x : Int) : List Int:=ys.take p ++ x :: ys.drop p
theorem fW {ys : List Int} {p : Nat} {x : Int} (hp : p <= ys.length) : (vX ys p x).length = ys.length + 1:=by
 simp only [vX,List.length_append,List.length_take,List.length_cons,List.length_drop];omega
theorem jZ {ys : List Int} {p : Nat} {x : Int} (hp : p <= ys.length) (j : Nat) : (vX ys p x)[j]? = if j < p then ys[j]? else if j = p then some x else ys[j - 1]?:=by
 unfold vX
 by_cases h1 : j < p
 ·rw [if_pos h1,List.getElem?_append_left (by simp;omega),List.getElem?_take,if_pos h1]
 ·rw [if_neg h1,List.getElem?_append_right (by simp;omega),List.length_take,Nat.min_eq_left hp]
  by_cases h2 : j = p
  ·subst h2;simp
  ·rw [if_neg h2]
   obtain ⟨d,rfl⟩ : ∃ d,j = p + 1 + d:=⟨j - (p + 1),by omega⟩
   rw [show p + 1 + d - p = d + 1 by omega,List.getElem?_cons_succ,List.getElem?_drop]
   congr 1;omega
def vint (z : Int) : Value:=.int .i64 z
theorem flatI (ys : List Int) : flat (ys.map (AV.int .i64)) = ys.map (AV.int .i64):=by
 induction ys with
 | nil=>rfl
 | cons y r ih=>simp only [flat,List.map_cons,List.flatMap_cons] at ih ⊢;rw [ih];rfl
theorem qH {c : Array Value} {ys : List Int} (k : zx P h β H (ys.map (AV.int .i64)) c) (j : Nat) (z : Int) (e : ys[j]? = some z) : c[j]? = some (.int .i64 z):=by
 obtain ⟨us,h1,h2⟩:=k
 have e' : (ys.map (AV.int .i64))[j]? = some (.int .i64 z):=by rw [List.getElem?_map,e];rfl
 rw [h1 j _ e',zH (h2 j _ e')]
theorem zbm {c : Array Value} {ys : List Int} (hc : ∀ (j : Nat) z,ys[j]? = some z -> c[j]? = some (.int .i64 z)) : zx P h β H (ys.map (AV.int .i64)) c:=by
 refine ⟨fun j=>.int .i64 (ys.getD j 0),fun j x e=>?_,fun j x e=>?_⟩
 ·rw [List.getElem?_map,Option.map_eq_some_iff] at e
  obtain ⟨z,e1,rfl⟩:=e
  rw [hc j z e1];simp [List.getD,e1]
 ·rw [List.getElem?_map,Option.map_eq_some_iff] at e
  obtain ⟨z,e1,rfl⟩:=e
  have e2 : ys.getD j 0 = z:=by simp [List.getD,e1]
  simp only [e2]
  exact .int _ _
theorem wa (s : SR P E h β H w) {i p cap b : Nat} {t : TypeId} {nl : Bool} {ys : List Int} {x : Int} (hi : H[i]? = some (.grow t nl (ys.map (AV.int .i64)))) (hp : p <= ys.length) (hsz : sz P t = 1)
  (hcap : ys.length + 1 <= cap) (hmax : cap <= maxLen) (he : World.env w' = World.env w) (hk : ∀ k,k < w.heap.size -> blkOf β H i ≠ some k -> w'.heap[k]? = w.heap[k]?)
  (hbo : blkOf β H i = some b \/ w.heap.size <= b) {c' : Array Value} (hb : w'.heap[b]? = some (.cells c' t (0,0))) (hcs : c'.size = cap) (hc : ∀ (j : Nat) z,(vX ys p x)[j]? = some z -> c'[j]? = some (.int .i64 z))
  {k : AV -> List Blk -> Prop} (hq : k (.gr i (ys.length + 1)) (H.set i (.grow t false ((vX ys p x).map (AV.int .i64))))) :
  Ends P E h β H k (.returned (.slice (some ⟨b,0,none⟩) (ys.length + 1) cap)) w':=by
 have hlt:=(List.getElem?_eq_some_iff.1 hi).1
 have hpl:=fW (x:=x) hp
 obtain ⟨s',X⟩:=s.modify (β':=upb β i (.slice (some ⟨b,0,none⟩) (ys.length + 1) cap)) (w':=w') (x':=.grow t false ((vX ys p x).map (AV.int .i64))) hi
  (fun j hj=>by simp [upb,hj]) (.inr ⟨_,_,rfl,by simp [hpl],fun e=>by simp [hpl] at e⟩) (he.trans s.env) hk
  (fun b0 hb=>by simp [upb,anchor] at hb;rw [<- hb.2];exact hbo)
  (fun X=>.inr (.inr ⟨rfl,b,cap,c',by simp [upb,hpl],by omega,hb,by simpa [hpl] using hcap,hmax,by rw [hsz,hcs,Nat.mul_one],by omega,
   fun e he=>by rw [hsz];obtain ⟨z,_,rfl⟩:=List.mem_map.1 he;rfl,fun e he=>by rw [flatI] at he;obtain ⟨z,_,rfl⟩:=List.mem_map.1 he;rfl,by rw [flatI];exact zbm hc⟩))
 refine ⟨_,_,_,_,_,rfl,hq,X,s',.gr rfl (.set hlt rfl) fun t' nl' els' e=>?_⟩
 simp [hlt] at e;obtain ⟨_,_,rfl⟩:=e;exact ⟨by simp [hpl],fun _=>by simp [upb]⟩
theorem zE.insert (L : Lays2.n21 P ρ) {i j p : Nat} {nl : Bool} {ys : List Int} {x : Int} (hi : H[i]? = some (.grow (ρ.t 3) nl (ys.map (AV.int .i64)))) (hj : H[j]? = some (.grow (ρ.t 3) false [.int .i64 x])) (hij : i ≠ j)
  (hp : p <= ys.length) (hn : ys.length <= 1000000) {k : AV -> List Blk -> Prop} (hk : k (.gr i (ys.length + 1)) (H.set i (.grow (ρ.t 3) false ((vX ys p x).map (AV.int .i64))))) :
  zE P (ρ.f 21) [.gr i ys.length,.int .i64 p,.gr j 1] H k:=by
 refine ⟨⟨_,L.f21,by kernel_rfl,by kernel_rfl⟩,fun E h β w vs s hr=>?_⟩
 obtain ⟨i0,hi0,hz0,hzs,hzb⟩:=info_parts L.i3
 have hsz : sz P (ρ.t 3) = 1:=by simp [sz,hi0,hzs]
 obtain ⟨hl,hr⟩:=hr
 match vs,hl,hr with
 | [v0,v1,v2],_,hr =>
 obtain ⟨_,e0,r0⟩:=hr 0 _ rfl
 obtain ⟨_,e1,r1⟩:=hr 1 _ rfl
 obtain ⟨_,e2,r2⟩:=hr 2 _ rfl
 cases e0;cases e1;cases e2
 have hv0 : v0 = β i:=by cases r0 with | gr ho hii hv=>exact (hv _ _ _ hi).2 (by simp)
 have hv2 : v2 = β j:=by cases r2 with | gr ho hii hv=>exact (hv _ _ _ hj).2 rfl
 have hv1:=zH r1
 subst hv0 hv1 hv2
 refine callsIn_wide.2 ?_
 rcases s.blk j _ hj with ⟨_,h7,_⟩ | ⟨_,h7,_⟩ | ⟨_,vb,vc,cv,j8,j9,j10,j11,j12,j13,j14,j15,j16,j17⟩
 ·cases h7
 ·cases h7
 have hvx : cv[0]? = some (.int .i64 x):=qH (ys:=[x]) (by simpa [flat,AV.cells] using j17) 0 x rfl
 have hjo : blkOf β H j = some vb:=by simp [blkOf,hj,j8,anchor];omega
 have hvs : ∀ (q : Nat) v,[vint x][q]? = some v -> w.cell? ⟨vb,0 + q,none⟩ = some v:=fun q v e=>by
  have hq : q = 0:=by have:=(List.getElem?_eq_some_iff.1 e).1;simp at this;exact this
  subst hq;cases e
  rw [yB j10];exact hvx
 have hcsl : (ys.map vint).length = ys.length:=by simp
 have h1c : ∀ v ∈ ys.map vint,v.oneCell' = true:=fun v hv=>by obtain ⟨z,_,rfl⟩:=List.mem_map.1 hv;rfl
 have h1v : ∀ v ∈ [vint x],v.oneCell' = true:=fun v hv=>by rw [List.mem_singleton.1 hv];rfl
 have hzc : ∀ q,(Builtin.zeroCells (Value.int IntKind.i64 0).cells q).size = q:=fun q=>by rw [size_zeroCells];exact Nat.mul_one q
 have hge:=fun cap=>grownCap_ge w (ys.length + 1) cap (ρ.t 3)
 have hle:=fun cap=>grownCap_le_maxLen w (ys.length + 1) cap (ρ.t 3) (by simp only [maxLen];omega)
 -- the new row at the end
 have fresh_end : ∀ (base : Option Addr) (c : Nat),β i = .slice base ys.length c -> ys.length <= c -> c < ys.length + 1 -> p = ys.length -> (base = none -> ys.length = 0) ->
   (∀ a,base = some a -> ∀ (q : Nat) v,(ys.map vint)[q]? = some v -> w.cell? (a.add q) = some v) ->
   Calls P (ρ.f 21) [β i,.int .i64 p,β j].toArray w (Ends P E h β H k):=by
  intro base c hb hnc hroom hpn hnil hcs
  rw [hb,j8,hpn]
  refine (Any2.slices_Insert_int_end_grow L base ys.length c vb 0 1 vc (ys.map vint) [vint x] w (by omega) hnc hroom (by omega) hcsl rfl hnil hcs hvs h1v).mono ?_
  rintro e w' ⟨rfl,rfl⟩
  refine wa (w':=w.drew.alloc _) s hi (by omega : p <= ys.length) hsz (hge c) (hle c) rfl (fun k hk _=>Below.heap_alloc w.drew _ _ hk) (.inr (Nat.le_refl _)) (heap_alloc_new w.drew _) ?_ ?_ hk
  ·simp only [Array.size_append,List.size_toArray,List.length_append,List.length_map,List.length_singleton,hzc];have:=hge c;omega
  ·intro q z e
   rw [jZ hp] at e
   have hlq : q < ys.length + 1:=by
    split at e
    ·omega
    ·split at e
     ·omega
     ·have:=(List.getElem?_eq_some_iff.1 e).1;omega
   rw [Array.getElem?_append_left (by simpa using hlq),List.getElem?_toArray]
   by_cases h1 : q < p
   ·rw [if_pos h1] at e
    rw [List.getElem?_append_left (by simp;omega),List.getElem?_map,e];rfl
   ·rw [if_neg h1] at e
    have h2 : q = p:=by omega
    rw [if_pos h2] at e;cases e
    rw [List.getElem?_append_right (by simp;omega),h2,hpn];simp [vint]
 rcases s.blk i _ hi with ⟨h6,h7,h8⟩ | ⟨h6,h7,a0,h8⟩ | ⟨h6,b,cap,c,h8,h9,h10,h11,h12,h13,h14,h15,h16,h17⟩
 ·have h7' : ys = []:=by simpa using h7
  subst h7'
  exact fresh_end none 0 h8 (by simp) (by simp) (by simpa using hp) (fun _=>rfl) (fun a e=>by cases e)
 ·have h7' : ys = []:=by simpa using h7
  subst h7'
  exact fresh_end (some a0) 0 h8 (by simp) (by simp) (by simpa using hp) (fun e=>by cases e) (fun a e q v e'=>by simp at e')
 ·rw [flatI] at h17
  rw [hsz,Nat.mul_one] at h13
  simp only [List.length_map] at h8 h11
  have hcell:=qH h17
  have hcs : ∀ (q : Nat) v,(ys.map vint)[q]? = some v -> w.cell? ⟨b,0 + q,none⟩ = some v:=fun q v e=>by
   rw [List.getElem?_map,Option.map_eq_some_iff] at e
   obtain ⟨z,e1,rfl⟩:=e
   rw [yB h10,Nat.zero_add];exact hcell q z e1
  have hbo : blkOf β H i = some b:=by simp [blkOf,hi,h8,anchor];omega
  have hvb : vb ≠ b:=fun e=>hij (s.own i j b hbo (by rw [hjo,e]))
  by_cases hroom : ys.length + 1 <= cap
  ·have hsp : ∀ q,q < ys.length + 1 -> (w.cell? ⟨b,0 + q,none⟩).isSome = true:=fun q hq=>by
    rw [yB h10,Nat.zero_add,Array.getElem?_eq_getElem (by omega)];rfl
   have hfz : ∀ (q : Nat),w.frozen? ⟨b,q,none⟩ = false:=fun q=>by simp [World.frozen?,h10]
   by_cases hpn : p = ys.length
   ·rw [h8,j8,hpn]
    refine (Any2.slices_Insert_int_end_room L b 0 ys.length cap vb 0 1 vc [vint x] w (by omega) hroom (by simp only [maxLen] at h12;omega) rfl
     (fun q hq=>by rw [Nat.zero_add,yB h10,Array.getElem?_eq_getElem (by omega)];rfl) (fun q hq=>hfz _) hvs h1v).mono ?_
    rintro e w' ⟨rfl,rfl⟩
    obtain ⟨c',g1,g2,g3⟩:=zY b [vint x] (0 + ys.length) w c h10 (by simp;omega)
    refine wa s hi hp hsz hroom h12 (yg _ _ _ _) (fun k _ hne=>zQ _ _ _ _ _ (fun e=>hne (by rw [hbo,e]))) (.inl hbo) g1 (by omega) ?_ hk
    intro q z e
    rw [jZ hp] at e
    rw [g3]
    by_cases h1 : q < p
    ·rw [if_pos h1] at e
     rw [if_neg (by omega)];exact hcell q z e
    ·rw [if_neg h1] at e
     by_cases h2 : q = p
     ·rw [if_pos h2] at e;cases e
      rw [if_pos (by simp;omega)];rw [h2,hpn];simp [vint]
     ·rw [if_neg h2] at e;have:=(List.getElem?_eq_some_iff.1 e).1;omega
   ·rw [h8,j8]
    refine (Any2.slices_Insert_int_shift L b 0 ys.length cap p vb 0 1 vc (ys.map vint) [vint x] w (by omega) (by omega) hroom (by simp only [maxLen] at h12;omega) hvb hcsl rfl hcs hsp (fun q _=>hfz _) hvs h1c h1v
     (ρ.t 3) (ρ.t 3) cv.size c.size (by simp [World.shape?,j10]) (by simp [World.shape?,h10]) (by omega) (by simp [World.frozen?,j10]) (by simp [World.frozen?,j10])).mono ?_
    rintro e w' ⟨rfl,rfl⟩
    obtain ⟨c1,f1,f2,f3⟩:=zY b ((ys.map vint).drop p) (0 + (p + 1)) w.drew c h10 (by simp;omega)
    obtain ⟨c',g1,g2,g3⟩:=zY b [vint x] (0 + p) _ c1 f1 (by simp;omega)
    refine wa (w':=(w.drew.setCells b (0 + (p + 1)) ((ys.map vint).drop p)).setCells b (0 + p) [vint x]) s hi hp hsz hroom h12 ((yg _ _ _ _).trans ((yg _ _ _ _).trans rfl)) (fun k _ hne=>(zQ _ _ _ _ _ (fun e=>hne (by rw [hbo,e]))).trans (zQ _ _ _ _ _ (fun e=>hne (by rw [hbo,e])))) (.inl hbo) g1 (by omega) ?_ hk
    intro q z e
    rw [jZ hp] at e
    rw [g3]
    by_cases h1 : q < p
    ·rw [if_pos h1] at e
     rw [if_neg (by omega),f3,if_neg (by omega)];exact hcell q z e
    ·rw [if_neg h1] at e
     by_cases h2 : q = p
     ·rw [if_pos h2] at e;cases e
      rw [if_pos (by simp;omega)];rw [h2];simp [vint]
     ·rw [if_neg h2] at e
      have h3:=(List.getElem?_eq_some_iff.1 e).1
      rw [if_neg (by simp;omega),f3,if_pos (by simp;omega),List.getElem?_drop,List.getElem?_map,show p + (q - (0 + (p + 1))) = q - 1 by omega,e];rfl
  ·by_cases hpn : p = ys.length
   ·exact fresh_end (some ⟨b,0,none⟩) cap h8 h11 (by omega) hpn (fun e=>by cases e) (fun a e q v e'=>by cases e;have:=hcs q v e';rw [yi];exact this)
   ·rw [h8,j8]
    refine (Any2.slices_Insert_int_grow L b 0 ys.length cap p vb 0 1 vc (ys.map vint) [vint x] w (by omega) (by omega) h11 (by omega) (by omega) hcsl rfl hcs hvs h1c h1v).mono ?_
    rintro e w' ⟨rfl,rfl⟩
    obtain ⟨R,hR⟩ : ∃ R : Array Value,R = (((ys.map vint).take p).toArray ++ Builtin.zeroCells (Value.int .i64 0).cells (ys.length + 1 - p) ++ Builtin.zeroCells (Value.int .i64 0).cells (grownCap w (ys.length + 1) cap (ρ.t 3) - (ys.length + 1))):=⟨_,rfl⟩
    have hRs : R.size = grownCap w (ys.length + 1) cap (ρ.t 3):=by
     rw [hR];simp only [Array.size_append,List.size_toArray,List.length_take,List.length_map,hzc];have:=hge cap;omega
    rw [<- hR]
    have hgc:=hge cap
    have f0 : (w.alloc (.cells R (ρ.t 3))).drew.heap[w.heap.size]? = some (.cells R (ρ.t 3) (0,0)):=heap_alloc_new w _
    obtain ⟨c1,f1,f2,f3⟩:=zY w.heap.size [vint x] p _ R f0 (by simp;omega)
    have f1' : ((w.alloc (.cells R (ρ.t 3))).drew.setCells w.heap.size p [vint x]).drew.heap[w.heap.size]? = some (.cells c1 (ρ.t 3) (0,0)):=f1
    obtain ⟨c',g1,g2,g3⟩:=zY w.heap.size ((ys.map vint).drop p) (p + 1) _ c1 f1' (by simp;omega)
    refine wa (w':=((w.alloc (.cells R (ρ.t 3))).drew.setCells w.heap.size p [vint x]).drew.setCells w.heap.size (p + 1) ((ys.map vint).drop p)) s hi hp hsz (hge cap) (hle cap) ((yg _ _ _ _).trans ((yg _ _ _ _).trans rfl)) (fun k hk _=>(zQ _ _ _ _ _ (by omega)).trans ((zQ _ _ _ _ _ (by omega)).trans (Below.heap_alloc w _ _ hk))) (.inr (Nat.le_refl _)) g1 (by omega) ?_ hk
    intro q z e
    rw [jZ hp] at e
    rw [g3]
    by_cases h1 : q < p
    ·rw [if_pos h1] at e
     rw [if_neg (by omega),f3,if_neg (by omega),hR,Array.getElem?_append_left (by simp [hzc];omega),Array.getElem?_append_left (by simp;omega),List.getElem?_toArray,List.getElem?_take,if_pos h1,List.getElem?_map,e];rfl
    ·rw [if_neg h1] at e
     by_cases h2 : q = p
     ·rw [if_pos h2] at e;cases e
      rw [if_neg (by omega),f3,if_pos (by simp;omega)];rw [h2];simp [vint]
     ·rw [if_neg h2] at e
      have h3:=(List.getElem?_eq_some_iff.1 e).1
      rw [if_pos (by simp;omega),List.getElem?_drop,List.getElem?_map,show p + (q - (p + 1)) = q - 1 by omega,e];rfl
structure Late (G : Prop) : Prop where
 g : G
theorem Walk.know {N : Nat} {r : Option Nat} {c : Code} {Q : Post} {D : List Nat} {σ : St} (L : List (Nat × AV)) (hs : SubX L σ) (x : Walk P N r c Q D (stX L) H) : Walk P N r c Q D σ H:=⟨AWp.weaken (yz hs) x.o⟩
theorem z7.row {es : List (Int × AV)} {n : Int} {k : AV -> Prop} (i : Nat) {te : TypeId} {nl : Bool} {els : List AV} (hi : lget H i = some (.grow te nl els)) (hnl : nl = els.isEmpty) (he : mget n es = if els.isEmpty = true then none else some (.gr i els.length)) (h : k (.gr i els.length)) : z7 H (.sl true []) false n es k:=by
 rw [zl] at hi
 cases els with
 | nil=>subst hnl;exact ⟨.inr ⟨rfl,rfl,he,i,te,hi,h⟩⟩
 | cons e els=>exact ⟨.inl (by rw [he];exact h)⟩
theorem Walk.nilrow {N : Nat} {r : Option Nat} {c : Code} {Q : Post} {D : List Nat} {σ : St} (te : TypeId) (x : Walk P N r c Q D σ (H ++ [.grow te true []])) : Walk P N r c Q D σ H:=by
 constructor
 intro E h β a w s
 obtain ⟨s',X⟩:=s.sr.push (w':=w) s.sr.env (fun _ _=>rfl) (.slice none 0 0) (.grow te true []) (by intro b hb;simp [anchor] at hb) (fun _=>.inl ⟨rfl,rfl,by simp [upb]⟩)
 exact wpIn_mono (x.o E h _ a w ⟨s',fun u r e=>let ⟨v,h1,h2⟩:=s.fits u r e;⟨v,h1,X.rep h2⟩,s.size,s.df.ext X⟩) fun _ _ _=>Conc.ext X
structure FrzE (i n : Nat) (nl : Bool) (els : List AV) (es es' : List (Int × AV)) : Prop where
 k : es'.map (·.1) = es.map (·.1)
 o : ∀ (j : Nat) q x',es'[j]? = some (q,x') -> ∃ x,es[j]? = some (q,x) /\ (x' = x \/ (x = .gr i n /\ x' = .sl nl els))
end
end GA
end
section
namespace GA
open Go Go.RowKit
structure kC (A : Prop) : Prop where
 o : A
def hsU (H : List Blk) : List Bool -> List Blk:=fun _=>H
section
variable {P : Program} {T : Tab} {N : Nat} {ρ : Option Nat} {D : List Nat} {σ : St} {H : List Blk} {Q : Post}
theorem SubX.app : ∀ {K L : List (Nat × AV)} {σ : St},SubX K σ -> SubX L σ -> SubX (K ++ L) σ
 | [],_,_,_,h=>h
 | (_,_) :: _,_,_,h,h2=>⟨h.1,SubX.app h.2 h2⟩
theorem Walk.drawN {ops : List Oper} {id : Nat} (ok : zr P T) (hm : P.follows .mixedOrders = true) (own eff : List Nat) (HS : List Bool -> List Blk) (R : List AV) (hs : Region.lexB .any ops.toArray = true) (hH : HS (eff.map fun _=>false) = H)
  (hA : ChkA P T N own ops eff HS 0 ops R σ) (hB : ChkB P T N own ops eff HS R σ (allF eff.length)) (hk : kC (Q .normal D (qR N ops R σ) (HS (eff.map fun j=>Nat.blt j ops.length)))) : Walk P N ρ (.region id ops.toArray true) Q D σ H:=
 Walk.drawX ok hm own eff HS R hs hH hA hB hk.o
theorem Walk.loopK {c : Code} {G : Type} (ok : zr P T) (own : List Nat) (K : List (Nat × AV)) (hK : SubX K σ) (I : G -> Prop) (L : G -> List (Nat × AV)) (hp : G -> List Blk) (μ : G -> Nat) (g0 : G) (h0 : I g0) (hH : hp g0 = H) (hs : SubX (L g0) σ)
  (round : ∀ g,I g -> XRun P T N ρ own c (kv (zu I (fun g=>K ++ L g) hp μ g D) Q) D (stX (K ++ L g)) (hp g)) : Walk P N ρ (.loop c) Q D σ H:=
 Walk.loop ok own I (fun g=>K ++ L g) hp μ g0 h0 hH (hK.app hs) round
theorem Walk.loopGK {c : Code} {G : Type} (ok : zr P T) (own : List Nat) (K : List (Nat × AV)) (hK : SubX K σ) (I : G -> Prop) (L : G -> List (Nat × AV)) (hp : G -> List Blk) (μ : G -> Nat) (g0 : G) (h0 : I g0) (hH : hp g0 = H) (hs : SubX (L g0) σ)
  (hlow : ∀ g,I g -> (∀ x ∈ hp g,x.low (hp g).length = true) /\ ∀ p ∈ K ++ L g,p.2.low (hp g).length = true) (hlen : ∀ g,I g -> (hp g0).length <= (hp g).length)
  (round : ∀ g,I g -> XRun P T N ρ own c (kv (zq I (fun g=>K ++ L g) hp μ g) Q) [] (stX (K ++ L g)) (hp g)) : Walk P N ρ (.loop c) Q [] σ H:=
 Walk.loopG ok own I (fun g=>K ++ L g) hp μ g0 h0 hH (hK.app hs) hlow hlen round
theorem jq.move {G : Type} {I : G -> Prop} {L : G -> List (Nat × AV)} {hp : G -> List Blk} {μ : G -> Nat} {base : Nat} {g : G} (g' : G) (A : List Blk) (x y : Blk) (u : Nat) (L0 : List (Nat × AV)) (h1 : I g') (h2 : μ g' < μ g) (h3 : hp g' = A ++ [y]) (h4 : H = A ++ [x,y])
  (h5 : L g' = (u,.ptr A.length 0) :: L0) (h6 : SubX L0 σ) (h7 : σ u = some (.ptr (A.length + 1) 0)) (hb : base <= A.length) (lA : ∀ z ∈ A,z.low A.length = true) (ly : y.low A.length = true) (lL : ∀ p ∈ L0,p.2.low A.length = true) : jq I L hp μ base g [] σ H:=by
 have hf : ∀ i,i < A.length -> (fun i=>if i = A.length then A.length + 1 else i) i = i:=fun i hi=>by simp only;rw [if_neg (by omega)]
 refine ⟨g',fun i=>if i = A.length then A.length + 1 else i,h1,h2,⟨List.nodup_nil,fun i hi=>by simp at hi,fun i _ hi=>by simp at hi⟩,?_⟩
 rw [h3,h4]
 refine ⟨fun i j hi hj e=>?_,fun i hi=>hf i (by omega),by simp;omega,fun i x1 e=>?_,fun i x1 hi e=>?_,fun z hz=>?_,fun t r e=>?_⟩
 ·split at e <;> split at e <;> simp only [List.length_append,List.length_cons,List.length_nil] at hi hj <;> omega
 ·rcases Nat.lt_or_ge i A.length with hi | hi
  ·rw [List.getElem?_append_left hi] at e
   rw [if_neg (show ¬ i = A.length by omega),List.getElem?_append_left hi,e,Blk.ren_low hf (lA _ (List.mem_of_getElem? e))]
  ·have hi2 : i = A.length:=by
    have:=(List.getElem?_eq_some_iff.1 e).1
    simp only [List.length_append,List.length_cons,List.length_nil] at this;omega
   subst hi2
   rw [List.getElem?_append_right (Nat.le_refl _),Nat.sub_self] at e
   cases e
   simp only [if_true]
   rw [List.getElem?_append_right (by omega),show A.length + 1 - A.length = 1 by omega,Blk.ren_low hf ly];rfl
 ·have hi2 : i < A.length:=by omega
  rw [List.getElem?_append_left hi2] at e
  exact Blk.ren_low hf (lA _ (List.mem_of_getElem? e))
 ·rw [List.mem_append,List.mem_singleton] at hz
  rcases hz with hz | rfl
  ·exact GA.low_mono (by simp) (lA z hz)
  ·exact GA.low_mono (by simp) ly
 ·rw [h5] at e
  have hlen : A.length <= (A ++ [y]).length:=by simp
  rcases List.mem_cons.1 (stX_mem _ _ _ e) with e1 | e1
  ·cases e1
   refine ⟨?_,by simp [AV.low]⟩
   rw [h7];simp only [AV.ren,if_true]
  ·have h8:=lL _ e1
   refine ⟨?_,AV.low_mono hlen h8⟩
   rw [AV.ren_low hf h8]
   simp only [stX,yl,upd] at e
   split at e
   ·rename_i h9
    cases e
    simp only [AV.low,decide_eq_true_eq] at h8;omega
   ·exact yz h6 t r e
theorem yieldMono {i : Nat} {rs : List AV} {k k' : AV -> List Blk -> Prop} (x : ji P i rs H k) (hk : ∀ r H',k r H' -> k' r H') : ji P i rs H k':=
 ⟨x.1,fun E h β w b vs s r e=>let ⟨f,tmps,assign,body,h1,h2⟩:=x.2 E h β w b vs s r e;⟨f,tmps,assign,body,h1,h2.mono fun _ _=>Ends.mono hk⟩⟩
def gd (P : Program) (i : Nat) (K : List Blk -> Prop) : List Nat -> List Blk -> Prop
 | [],H=>K H
 | c :: cs,H=>yK P i [.int .i64 (c : Int)] H fun r H'=>(r = .bool true /\ gd P i K cs H') \/ (r = .bool false /\ K H')
theorem gd.run {i : Nat} {K : List Blk -> Prop} {S : Type} (upd : S -> List Blk) (step : S -> Nat -> S) (I : S -> List Nat -> Prop)
  (x : ∀ s c cs,I s (c :: cs) -> yK P i [.int .i64 (c : Int)] (upd s) (fun r H'=>r = .bool true /\ H' = upd (step s c)) /\ I (step s c) cs) :
  ∀ (cs : List Nat) (s : S),I s cs -> K (upd (cs.foldl step s)) -> gd P i K cs (upd s)
 | [],s,_,hk=>hk
 | c :: cs,s,hI,hk=>by
   obtain ⟨h1,h2⟩:=x s c cs hI
   refine ⟨yieldMono h1.o ?_⟩
   rintro r H' ⟨rfl,rfl⟩
   exact .inl ⟨rfl,gd.run upd step I x cs _ h2 hk⟩
theorem gd.go {i : Nat} {K : List Blk -> Prop} {S : Type} {cs : List Nat} (upd : S -> List Blk) (step : S -> Nat -> S) (I : S -> List Nat -> Prop) (s0 : S) (hH : upd s0 = H)
  (x : ∀ s c cs,I s (c :: cs) -> yK P i [.int .i64 (c : Int)] (upd s) (fun r H'=>r = .bool true /\ H' = upd (step s c)) /\ I (step s c) cs) (hI : I s0 cs) (hk : K (upd (cs.foldl step s0))) : gd P i K cs H:=by
 have:=gd.run upd step I x cs s0 hI hk
 rwa [hH] at this
end
section
variable {α : Type}
def vecF (W : Nat) (F : Nat -> α) : List α:=if h : W = 0 then [] else vecF (W - 1) F ++ [F (W - 1)]
 termination_by W
theorem qi (F : Nat -> α) : ∀ W,vecF W F = (List.range W).map F
 | 0=>by rw [vecF];rfl
 | n + 1=>by rw [vecF,dif_neg (by omega),Nat.add_sub_cancel,qi F n,List.range_succ,List.map_append];rfl
def updV (F : Nat -> α) (j : Nat) (v : α) : Nat -> α:=fun j'=>if j' = j then v else F j'
theorem kF (W : Nat) (F : Nat -> α) : (vecF W F).length = W:=by rw [qi];simp
theorem yf (W : Nat) (F : Nat -> α) (i : Nat) : (vecF W F)[i]? = if i < W then some (F i) else none:=by
 rw [qi,List.getElem?_map]
 by_cases h : i < W
 ·rw [List.getElem?_range h,if_pos h];rfl
 ·rw [List.getElem?_eq_none (by simpa using h),if_neg h];rfl
theorem vecF_get {W : Nat} {F : Nat -> α} {i : Nat} (d : α) (h : i < W) : (vecF W F).getD i d = F i:=by rw [List.getD_eq_getElem?_getD,yf,if_pos h];rfl
theorem kB {W : Nat} {F G : Nat -> α} (h : ∀ i,i < W -> F i = G i) : vecF W F = vecF W G:=by
 apply List.ext_getElem?;intro i
 rw [yf,yf]
 by_cases h1 : i < W
 ·rw [if_pos h1,if_pos h1,h i h1]
 ·rw [if_neg h1,if_neg h1]
theorem wJ (W : Nat) (F : Nat -> α) (j : Nat) (v : α) : (vecF W F).set j v = vecF W (updV F j v):=by
 apply List.ext_getElem?;intro i
 rw [List.getElem?_set,yf,yf,kF]
 unfold updV
 by_cases h1 : j = i
 ·subst h1;rw [if_pos rfl]
  by_cases h2 : j < W
  ·rw [if_pos h2,if_pos h2,if_pos rfl]
  ·rw [if_neg h2,if_neg h2]
 ·rw [if_neg h1]
  by_cases h2 : i < W
  ·rw [if_pos h2,if_pos h2,if_neg (fun e=>h1 e.symm)]
  ·rw [if_neg h2,if_neg h2]
theorem vecF_mem {W : Nat} {F : Nat -> α} {x : α} : x ∈ vecF W F ↔ ∃ i,i < W /\ F i = x:=by rw [qi];simp
theorem zR (W : Nat) (v : α) : vecF W (fun _=>v) = List.replicate W v:=by
 apply List.ext_getElem?;intro i
 rw [yf,List.getElem?_replicate]
def updM (F : Nat -> Nat -> α) (i j : Nat) (v : α) : Nat -> Nat -> α:=fun i' j'=>if i' = i /\ j' = j then v else F i' j'
variable {f : α -> AV}
theorem vec_at {W : Nat} {F : Nat -> α} {j : Nat} (h : j < W) : ((vecF W F).map f)[j]? = some (f (F j)):=by rw [List.getElem?_map,yf,if_pos h];rfl
theorem yR {o : Nat} {k : List AV -> Prop} {W : Nat} {F : Nat -> α} (j : Nat) (ho : o = j) (hj : j < W) (h : k (f (F j) :: ((vecF W F).map f).drop (j + 1))) : xdrop o ((vecF W F).map f) k:=by
 subst ho;exact za7 _ (vec_at hj) h
theorem wL {n W : Nat} {F : Nat -> α} {k : List AV -> Prop} (hn : n = W) (h : k ((vecF W F).map f)) : xtk n ((vecF W F).map f) k:=by
 have : ∀ (l : List AV) (k : List AV -> Prop),k l -> xtk l.length l k:=by
  intro l;induction l with
  | nil=>intro k h;exact h
  | cons x l ih=>intro k h;exact ih (fun l=>k (x :: l)) h
 have e : n = ((vecF W F).map f).length:=by rw [List.length_map,kF,hn]
 rw [e];exact this _ _ h
theorem q9 {o : Nat} {k : List AV -> Prop} {W : Nat} {F : Nat -> α} (v : α) (j : Nat) (ho : o = j) (hj : j < W) (h : k ((vecF W (updV F j v)).map f)) : xspl ((vecF W F).map f) o [f v] k:=by
 subst ho
 have gen : ∀ (c : List AV) (o : Nat) (v : AV) (k : List AV -> Prop),o < c.length -> k (c.set o v) -> xspl c o [v] k:=by
  intro c;induction c with
  | nil=>intro o v k h _;simp at h
  | cons x c ih =>
    intro o v k h hk
    cases o with
    | zero =>
      show xspl c 0 [] fun l=>k (v :: l)
      cases c <;> exact hk
    | succ o=>exact ih o v (fun l=>k (x :: l)) (by simpa using h) hk
 refine gen _ _ _ _ (by rw [List.length_map,kF];exact hj) ?_
 rw [<- List.map_set,wJ];exact h
theorem jY {n W : Nat} {F : Nat -> α} (hf : ∀ x,(f x).low n = true) : lowL n ((vecF W F).map f) = true:=zT hf _
end
theorem XGet.mapF {α : Type} {f : α -> AV} {xs : List α} {n e : Nat} {k : List AV -> Prop} (d : α) (h1 : n = xs.length) (h2 : e < n) (h : k (f (xs.getD e d)).cells) : XGet (xs.map f) n e k:=by
 refine ⟨by rw [List.length_map];exact h1,h2,?_⟩
 have : (xs.map f).getD e default = f (xs.getD e d):=by
  rw [List.getD_eq_getElem?_getD,List.getElem?_map,List.getD_eq_getElem?_getD,List.getElem?_eq_getElem (by omega)];rfl
 rw [this];exact h
end GA
end
section
namespace GA
open Go Go.RowKit
section
variable {P : Program} {N : Nat} {ρ : Option Nat} {H : List Blk} {σ : St} {D : List Nat}
theorem jQ : ∀ {els : List AV},(∀ x ∈ els,x.one = true) -> flat els = els
 | [],_=>rfl
 | x :: l,h=>by
   have h1:=h x List.mem_cons_self
   have h2:=jQ (els:=l) fun y hy=>h y (List.mem_cons_of_mem _ hy)
   have h3 : x.cells = [x]:=by cases x <;> first | rfl | cases h1
   show x.cells ++ flat l = _
   rw [h3,h2];rfl
theorem gZ {x : AV} (h : x.one = true) : x.cells = [x]:=by cases x <;> first | rfl | cases h
theorem Walk.run {T : Tab} {c : Code} {Q : Post} (ok : zr P T) (own : List Nat) (x : XRun P T N ρ own c Q D σ H) : Walk P N ρ c Q D σ H:=⟨XRun.sound ok x⟩
theorem XGet.set {els : List AV} {n e m : Nat} {x : AV} {k : List AV -> Prop} (he : e = m) (hm : m < els.length) (hn : n = els.length) (h : k x.cells) : XGet (els.set m x) n e k:=by
 subst he
 refine ⟨by rw [List.length_set];exact hn,by omega,?_⟩
 have : (els.set e x).getD e default = x:=by rw [List.getD_eq_getElem?_getD,List.getElem?_set_self hm];rfl
 rw [this];exact h
theorem XPut.set {els : List AV} {n e m : Nat} {x v : AV} {k : List AV -> Prop} (he : e = m) (hm : m < els.length) (hn : n = els.length) (h : k (els.set m v)) : XPut (els.set m x) n e v k:=by
 subst he
 exact ⟨by rw [List.length_set];exact hn,by omega,by rw [List.set_set];exact h⟩
theorem yD.sl {n : Nat} {nl : Bool} {els els' : List AV} (hone : ∀ x ∈ els,x.one = true) (hone' : ∀ x ∈ els',x.one = true) (hs : jz P n H els els') : yD P n H (.sl nl els) (.sl nl els'):=by
 intro E h β w s v hr H1
 cases hr with
 | slnil =>
   have : els' = []:=List.eq_nil_of_length_eq_zero hs.1
   subst this;exact .slnil
 | slemp =>
   have : els' = []:=List.eq_nil_of_length_eq_zero hs.1
   subst this;exact .slemp
 | sl us hn hne hb hw hw0 ho hcap hc h3 =>
   rw [jQ hone] at hc h3
   obtain ⟨e0,he0⟩:=List.exists_mem_of_ne_nil _ hne
   have hw1:=hw e0 he0
   rw [gZ (hone e0 he0)] at hw1
   refine .sl us (by rw [hn,hs.1]) (fun e=>hne (List.eq_nil_of_length_eq_zero (by rw [<- hs.1,e];rfl))) (km s hb) (fun e he=>by rw [gZ (hone' e he)];exact hw1) hw0 (fun x hx=>?_) (by rw [hs.1];exact hcap) (fun j x e=>?_) (fun j x e=>?_)
   ·rw [jQ hone'] at hx;exact hone' x hx
   ·rw [jQ hone'] at e
    obtain ⟨y,e1,_⟩:=hs.2 j x e;exact hc j y e1
   ·rw [jQ hone'] at e
    obtain ⟨y,e1,e2⟩:=hs.2 j x e;exact e2 E h β w s _ (h3 j y e1) H1
end
end GA
end
section
namespace GA
open Go Go.RowKit
section
variable {P : Program} {N : Nat} {ρ : Option Nat} {H : List Blk} {σ : St} {D : List Nat} {Q : Post}
structure XFrz (u i n : Nat) (σ : St) (H : List Blk) (k : St -> List Blk -> Prop) : Prop where
 o : ∃ t nl els,σ u = some (.gr i n) /\ lget H i = some (.grow t nl els) /\ els.length = n /\ k (updX σ u (.sl nl els)) (H.set i .dead)
theorem XFrz.go {u i n : Nat} {k : St -> List Blk -> Prop} {t : TypeId} {nl : Bool} {els : List AV} (hu : σ u = some (.gr i n)) (hi : lget H i = some (.grow t nl els)) (hn : els.length = n) (x : k (updX σ u (.sl nl els)) (H.set i .dead)) : XFrz u i n σ H k:=⟨t,nl,els,hu,hi,hn,x⟩
end
end GA
end
section
namespace GA
open Go Go.RowKit
section
variable {P : Program} {N : Nat} {ρ : Option Nat} {H : List Blk} {σ : St} {D : List Nat} {Q : Post} {E : Env} {h : Nat -> Option Obj} {β : Nat -> Value} {a : Act} {w : World}
structure XKeepE (P : Program) (σ : St) (H : List Blk) (k : St -> List Blk -> Prop) : Prop where
 o : ∃ (H1 l : List Blk) (L : List (Nat × AV)),H1 ++ l = H /\ (∀ x ∈ H1,x.low H1.length = true) /\ SubF P H1.length H L σ /\ k (stX L) (H1 ++ l.map fun _=>.dead)
theorem XKeepE.go {k : St -> List Blk -> Prop} (H1 l : List Blk) (L : List (Nat × AV)) (hH : H1 ++ l = H) (hlow : ∀ x ∈ H1,x.low H1.length = true) (hs : SubF P H1.length H L σ) (x : k (stX L) (H1 ++ l.map fun _=>.dead)) : XKeepE P σ H k:=⟨H1,l,L,hH,hlow,hs,x⟩
theorem zbt {h : Nat -> Option Obj} {β : Nat -> Value} {H : List Blk} {w : World} : yI 0 h β H w = hall h β H w:=by
 funext b
 by_cases hx : ∃ i,blkOf β H i = some b
 ·obtain ⟨i,hi⟩:=hx
  rw [gX (Nat.zero_le i) hi]
  unfold hall;rw [if_pos ⟨i,hi⟩]
 ·unfold yI hall
  rw [if_neg hx,if_neg (fun ⟨i,_,h⟩=>hx ⟨i,h⟩)]
theorem Froz.n0 {r r' : AV} (f : Froz P H r r') : yD P 0 H r r':=fun E h β w s v hr H1=>by
 rw [zbt]
 exact (f E h β w s v hr).none
theorem vN.all {r r' : AV} (f : Froz P H r r') : vN P 0 H r r':=.inl f.n0
end
end GA
end
section
namespace GA
open Go Go.RowKit
section
variable {P : Program} {N : Nat} {ρ : Option Nat} {H : List Blk} {σ : St} {D : List Nat} {Q : Post}
structure XDo (P : Program) (N : Nat) (D : List Nat) (σ : St) (H : List Blk) (K : St -> List Blk -> Prop) : Prop where
 o : ∀ E h β a w,yC P E N h β D σ H a w -> ∃ σ' H' h' β',K σ' H' /\ Ext h β H h' β' H' /\ yC P E N h' β' D σ' H' a w
theorem XDo.run {K : St -> List Blk -> Prop} (x : K σ H) : XDo P N D σ H K:=⟨fun E h β a w s=>⟨σ,H,h,β,x,Ext.refl _ _ _,s⟩⟩
theorem Walk.loopGKL {T : Tab} {c : Code} {G : Type} (ok : zr P T) (own : List Nat) (lp : Blk) (K : List (Nat × AV)) (hK : SubX K σ) (I : G -> Prop) (L : G -> List (Nat × AV)) (hp : Blk -> G -> List Blk) (μ : G -> Nat) (g0 : G) (h0 : I g0) (hH : hp lp g0 = H) (hs : SubX (L g0) σ)
  (hlow : ∀ g,I g -> (∀ x ∈ hp lp g,x.low (hp lp g).length = true) /\ ∀ p ∈ K ++ L g,p.2.low (hp lp g).length = true) (hlen : ∀ g,I g -> (hp lp g0).length <= (hp lp g).length)
  (round : ∀ g,I g -> XRun P T N ρ own c (kv (zq I (fun g=>K ++ L g) (hp lp) μ g) Q) [] (stX (K ++ L g)) (hp lp g)) : Walk P N ρ (.loop c) Q [] σ H:=
 Walk.loopGK ok own K hK I L (hp lp) μ g0 h0 hH hs hlow hlen round
theorem Walk.seq {a b : Code} (x : Walk P N ρ a (kv (fun D σ H=>Walk P N ρ b Q D σ H) Q) D σ H) : Walk P N ρ (.seq a b) Q D σ H:=
 ⟨AWp.seq (AWp.mono x.o fun e D σ H q=>by cases e <;> first|exact q.o|exact q)⟩
end
end GA
end
section
namespace GA
open Go Go.RowKit
section
variable {P : Program} {E : Env} {h h' : Nat -> Option Obj} {β β' : Nat -> Value} {H : List Blk} {w w' : World}
theorem SR.besideAt (s : SR P E h β H w) {i : Nat} (hi : H[i]? = some .free) {b0 : Blk} {E' : Env} (hb : E'.b = E.b) (h1 : ∀ i b,blkOf β H i = some b -> E'.fr b = w.heap[b]?) (h2 : ∀ b,(∀ i,blkOf β H i ≠ some b) -> E'.fr b = E.fr b)
  (X : Ext h β [] h' β' [b0]) (s' : SR P E' h' β' [b0] w') :
  ∃ β'',Ren (fun _=>i) β' [b0] β'' (H.set i (b0.ren fun _=>i)) /\ Ext h β H h' β'' (H.set i (b0.ren fun _=>i)) /\ SR P E h' β'' (H.set i (b0.ren fun _=>i)) w':=by
 let β'' : Nat -> Value:=fun j=>if j = i then β' 0 else β j
 have hlt:=(List.getElem?_eq_some_iff.1 hi).1
 have b1 : ∀ j,j ≠ i -> β'' j = β j:=fun j hj=>if_neg hj
 have b2 : β'' i = β' 0:=if_pos rfl
 have hsi : (H.set i (b0.ren fun _=>i))[i]? = some (b0.ren fun _=>i):=List.getElem?_set_self hlt
 have hne : ∀ j,j ≠ i -> (H.set i (b0.ren fun _=>i))[j]? = H[j]?:=fun j hj=>List.getElem?_set_ne (Ne.symm hj)
 have R : Ren (fun _=>i) β' [b0] β'' (H.set i (b0.ren fun _=>i)):=by
  refine ⟨fun k x e=>?_,fun k hk=>?_⟩
  ·cases k with
   | zero=>cases e;exact hsi
   | succ k=>simp at e
  ·have : k = 0:=by rw [List.length_singleton] at hk;omega
   subst this;exact b2
 have X' : Ext h β H h' β'' (H.set i (b0.ren fun _=>i)):=by
  refine ⟨X.imm,by simp,fun j x x' e e'=>?_⟩
  by_cases hj : j = i
  ·subst hj;rw [hi] at e;cases e;trivial
  ·rw [hne j hj,e] at e';cases e'
   have:=Blk.to_refl β j x
   cases x <;> first|exact rfl | trivial|(simp only [Blk.to,b1 j hj] at this ⊢;exact this)
 have o1 : ∀ j,j ≠ i -> blkOf β'' (H.set i (b0.ren fun _=>i)) j = blkOf β H j:=fun j hj=>by
  unfold blkOf;rw [hne j hj,b1 j hj]
 have o2 : blkOf β'' (H.set i (b0.ren fun _=>i)) i = blkOf β' [b0] 0:=R.blkOf (i:=0) (by simp)
 have hsplit : ∀ j x,blkOf β'' (H.set i (b0.ren fun _=>i)) j = some x -> (j ≠ i /\ blkOf β H j = some x) \/ (j = i /\ blkOf β' [b0] 0 = some x):=by
  intro j x e
  by_cases hj : j = i
  ·subst hj;exact .inr ⟨rfl,by rw [<- o2];exact e⟩
  ·exact .inl ⟨hj,by rw [<- o1 j hj];exact e⟩
 have hclash : ∀ i j b,blkOf β H i = some b -> blkOf β' [b0] j = some b -> False:=by
  intro i j b e1 e2
  have h3:=s'.fro j b e2
  rw [h1 i b e1,Array.getElem?_eq_getElem (s.lt e1)] at h3
  cases h3
 have hkeep : ∀ i b,blkOf β H i = some b -> w'.heap[b]? = w.heap[b]? /\ h' b = none:=by
  intro i b e
  have hlt:=s.lt e
  have e1 : E'.fr b = some w.heap[b]:=by rw [h1 i b e,Array.getElem?_eq_getElem hlt]
  obtain ⟨e2,e3⟩:=s'.frm b _ e1
  exact ⟨by rw [e2,Array.getElem?_eq_getElem hlt],e3⟩
 refine ⟨β'',R,X',s'.env.trans hb,s'.imm,fun j x e=>?_,fun j k x e1 e2=>?_,fun j x e=>?_,fun b o e=>?_,fun j x e=>?_⟩
 ·by_cases hj : j = i
  ·subst hj
   rw [hsi] at e;cases e
   exact R.blk (i:=0) (by simp) (s'.blk 0 _ rfl)
  ·rw [hne j hj] at e
   exact (s.blk j x e).keep X' (b1 j hj) fun hd hd' b hb=>(hkeep j b (by unfold blkOf;rw [e];cases x <;> first|exact absurd rfl hd|exact absurd rfl hd'|exact hb)).1
 ·rcases hsplit j x e1 with ⟨_,a1⟩ | ⟨rfl,a1⟩ <;> rcases hsplit k x e2 with ⟨_,a2⟩ | ⟨rfl,a2⟩
  ·exact s.own _ _ _ a1 a2
  ·exact (hclash _ _ _ a1 a2).elim
  ·exact (hclash _ _ _ a2 a1).elim
  ·rfl
 ·rcases hsplit j x e with ⟨_,a1⟩ | ⟨rfl,a1⟩
  ·exact (hkeep j x a1).2
  ·exact s'.fresh _ _ a1
 ·by_cases hh : ∃ i,blkOf β H i = some b
  ·obtain ⟨i,hi⟩:=hh
   rw [s.fro _ _ hi] at e;cases e
  ·exact s'.frm b o (by rw [h2 b (fun i hi=>hh ⟨i,hi⟩)];exact e)
 ·rcases hsplit j x e with ⟨_,a1⟩ | ⟨rfl,a1⟩
  ·exact s.fro _ _ a1
  ·have h3:=s'.fro _ _ a1
   rw [h2 x (fun i hi=>hclash _ _ _ hi a1)] at h3
   exact h3
theorem zE.giveAt {f : FuncId} {rs : List AV} {r : AV} {b0 : Blk} {k : AV -> List Blk -> Prop} (i : Nat) (hi : H[i]? = some .free) (x : ke P f rs r [b0]) (hk : k (r.ren fun _=>i) (H.set i (b0.ren fun _=>i))) : zE P f rs H k:=by
 refine ⟨x.o.1,fun E h β w vs s hr=>?_⟩
 classical
 let E' : Env:=⟨E.b,fun b=>if ∃ i,blkOf β H i = some b then w.heap[b]? else E.fr b,E.en⟩
 have s0 : SR P E' h β [] w:=by
  refine ⟨s.env,s.imm,fun i x e=>by simp at e,fun i j x e=>by simp [blkOf] at e,fun i x e=>by simp [blkOf] at e,fun b o e=>?_,fun i x e=>by simp [blkOf] at e⟩
  simp only [E'] at e
  split at e
  ·rename_i hh;obtain ⟨i,hi⟩:=hh;exact ⟨e,s.fresh _ _ hi⟩
  ·exact s.frm b o e
 have hr0 : RepL P h β [] rs vs:=⟨hr.1,fun j y e=>by
  obtain ⟨v,e1,e2⟩:=hr.2 j y e
  exact ⟨v,e1,Rep.cut (H:=[]) (l:=H) e2 ((zo.1 x.lo) y (List.mem_of_getElem? e))⟩⟩
 refine (x.o.2 E' h β w vs s0 hr0).mono ?_
 rintro e w' ⟨r1,H1,h',β',v,rfl,⟨rfl,rfl⟩,X,s',hrep⟩
 obtain ⟨β'',R,X',s''⟩:=s.besideAt hi (E':=E') rfl (fun i b e=>by simp only [E'];rw [if_pos ⟨i,e⟩]) (fun b hn=>by simp only [E'];rw [if_neg (fun ⟨i,hi⟩=>hn i hi)]) X s'
 exact ⟨_,_,h',β'',v,rfl,hk,X',s'',R.rep hrep⟩
theorem zf.giveAt {f : FuncId} {rs : List AV} {r : AV} {b0 : Blk} {k : AV -> List Blk -> Prop} (i : Nat) (hi : lget H i = some .free) (x : ke P f rs r [b0]) (hk : k (r.ren fun _=>i) (H.set i (b0.ren fun _=>i))) : zf P f rs H k:=⟨.giveAt i (by rw [zl] at hi;exact hi) x hk⟩
end
end GA
end
section
namespace GA
open Go Go.RowKit
section
variable {P : Program} {T : Tab} {N : Nat} {ρ : Option Nat} {D : List Nat} {σ : St} {H : List Blk} {Q : Post}
theorem Walk.weak {c : Code} (L : List (Nat × AV)) (hs : SubX L σ) (x : Walk P N ρ c Q D (stX L) H) : Walk P N ρ c Q D σ H:=⟨AWp.weaken (yz hs) x.o⟩
theorem Walk.blk {id : Nat} {c : Code} (x : Walk P N ρ c (qy id Q) D σ H) : Walk P N ρ (.block id c) Q D σ H:=⟨.block (by rw [<- vu];exact x.o)⟩
end
end GA
end
section
namespace GA
open Go Go.RowKit
structure XGo (P : Program) (N : Nat) (ρ : Option Nat) (c : Code) (Q : Post) (D : List Nat) (σ : St) (H : List Blk) : Prop where
 o : Walk P N ρ c Q D σ H
def wF (P : Program) (T : Tab) (N : Nat) (ρ : Option Nat) (own : List Nat) : Code -> Post -> List Nat -> St -> List Blk -> Prop
 | .skip,Q,D,σ,H=>Q .normal D σ H
 | .exit id,Q,D,σ,H=>Q (.exit id) D σ H
 | .ret,Q,D,σ,H=>Q .ret D σ H
 | .seq a b,Q,D,σ,H=>wF P T N ρ own a (kv (XGo P N ρ b Q) Q) D σ H
 | .cond c x y,Q,D,σ,H=>bnd (ev σ c) fun r=>match r with | .bool b=>XBr b (XGo P N ρ x Q D σ H) (XGo P N ρ y Q D σ H) | _=>False
 | .block id b,Q,D,σ,H=>XGo P N ρ b (qy id Q) D σ H
 | .region id ops false,Q,D,σ,H=>match manyG 12 ops.toList with | true=>Walk P N ρ (.region id ops false) Q D σ H | false=>XReg P T N own ops.toList ops.toList σ H (Q .normal D)
 | c,Q,D,σ,H=>Walk P N ρ c Q D σ H
section
variable {P : Program} {T : Tab} {N : Nat} {ρ : Option Nat} {own : List Nat}
theorem wF.sound (ok : zr P T) : ∀ {c : Code} {Q : Post} {D : List Nat} {σ : St} {H : List Blk},wF P T N ρ own c Q D σ H -> AWp P N ρ c Q D σ H
 | .skip,_,_,_,_,x=>.skip x
 | .exit _,_,_,_,_,x=>.exit x
 | .ret,_,_,_,_,x=>.ret x
 | .seq a b,Q,_,_,_,x=>.seq (AWp.mono (Q:=kv (XGo P N ρ b Q) Q) (wF.sound ok (c:=a) x) fun e D σ H q=>by
   cases e with
   | normal=>exact q.o.o
   | _=>exact q)
 | .cond c _ _,_,_,_,_,x=>by
   obtain ⟨r,h1,h2⟩:=zb x
   split at h2
   ·exact .cond h1 (fun h=>(h2.t h).o.o) (fun h=>(h2.f h).o.o)
   ·exact h2.elim
 | .block id b,Q,D,σ,H,x=>.block (by rw [<- vu];exact x.o.o)
 | .region id ops false,Q,D,σ,H,x=>by
   unfold wF at x
   split at x
   ·exact x.o
   ·exact .regionX ok x
 | .region _ _ true,_,_,_,_,x=>x.o
 | .loop _,_,_,_,_,x=>x.o
 | .rangeFunc ..,_,_,_,_,x=>x.o
 | .scope _,_,_,_,_,x=>x.o
 | .label _,_,_,_,_,x=>x.o
 | .goto _,_,_,_,_,x=>x.o
 | .refuse _,_,_,_,_,x=>x.o
theorem XGo.go {c : Code} {Q : Post} {D : List Nat} {σ : St} {H : List Blk} (ok : zr P T) (own : List Nat) (x : wF P T N ρ own c Q D σ H) : XGo P N ρ c Q D σ H:=⟨⟨wF.sound ok x⟩⟩
theorem Walk.step {c : Code} {Q : Post} {D : List Nat} {σ : St} {H : List Blk} (ok : zr P T) (own : List Nat) (x : wF P T N ρ own c Q D σ H) : Walk P N ρ c Q D σ H:=⟨wF.sound ok x⟩
theorem XGo.at {c : Code} {Q : Post} {D : List Nat} {σ : St} {H : List Blk} (L : List (Nat × AV)) (hs : SubX L σ) (x : Walk P N ρ c Q D (stX L) H) : XGo P N ρ c Q D σ H:=⟨.weak L hs x⟩
end
end GA
end
section
namespace GA
open Go Go.RowKit
theorem XBr.y {p : Prop} [Decidable p] {A B : Prop} (x : p -> A) (h : p:=by first | omega|(simp only [List.length_map];omega)) : XBr (decide p) A B:=.yes (decide_eq_true h) (x h)
theorem XBr.n {p : Prop} [Decidable p] {A B : Prop} (x : ¬ p -> B) (h : ¬ p:=by first | omega|(simp only [List.length_map];omega)) : XBr (decide p) A B:=.no (decide_eq_false h) (x h)
theorem XBr.y1 {a b : Int} {A B : Prop} (x : a = b -> A) (h : a = b:=by omega) : XBr (a == b) A B:=.yes (beq_iff_eq.2 h) (x h)
theorem XBr.n1 {a b : Int} {A B : Prop} (x : a ≠ b -> B) (h : a ≠ b:=by omega) : XBr (a == b) A B:=.no (beq_eq_false_iff_ne.2 h) (x h)
theorem XBr.y2 {a b : Int} {A B : Prop} (x : a ≠ b -> A) (h : a ≠ b:=by omega) : XBr (a != b) A B:=.yes (bne_iff_ne.2 h) (x h)
theorem XBr.n2 {a b : Int} {A B : Prop} (x : a = b -> B) (h : a = b:=by omega) : XBr (a != b) A B:=.no (by rw [h];exact bne_self_eq_false b) (x h)
theorem XInt.a {x : Int} {k : AV -> Prop} (y : k (.int .i64 x)) (l : -9223372036854775808 <= x:=by omega) (u : x <= 9223372036854775807:=by omega) : XInt .i64 x k:=.i64 l u y
theorem zj.a {p A : Prop} (x : A) (h : p:=by first | omega | rfl | decide|exact ⟨rfl,by decide,rfl⟩|exact yx _|(unfold Room;constructor <;> ((try simp) <;> omega))|exact ⟨rfl,by simp only [List.length_map],by unfold Room;constructor <;> ((try simp) <;> omega)⟩|exact ⟨by omega,by omega,by unfold Room;constructor <;> ((try simp) <;> omega)⟩|fail) : zj p A:=⟨h,x⟩
theorem XIx.a {α : Type} [Inhabited α] {f : α -> AV} {xs : List α} {i w : Nat} {k : AV -> Prop} (x : k (.pim (f (xs.getD i default)).cells)) (h : i < xs.length:=by omega) (hw : ∀ x,(f x).cells.length = w:=by intro _;rfl) : XIx (xs.map f) (i : Int) w k:=.nat h hw x
theorem XIx.b {α : Type} [Inhabited α] {f : α -> AV} {xs : List α} {n : Int} {w : Nat} {k : AV -> Prop} (x : k (.pim (f (xs.getD n.toNat default)).cells)) (h1 : 0 <= n:=by omega) (h2 : n < xs.length:=by omega) (hw : ∀ x,(f x).cells.length = w:=by intro _;rfl) : XIx (xs.map f) n w k:=.map h1 h2 hw x
end GA
end
