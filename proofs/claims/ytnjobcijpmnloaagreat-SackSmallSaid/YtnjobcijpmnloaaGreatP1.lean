/- Part 1 of a proof: Abs1, Abs2, Abs3, Abs4, Abs5, Abs6, Abs7, Abs8, Abs9. -/
import Derived.WalkKit
import Derived.CallsIn
import Derived.OrdersIn
import Derived.Laws.MakeOwn
import Derived.Great.BuildSlice
set_option linter.unusedVariables false
set_option linter.unusedSimpArgs false
set_option maxRecDepth 8000
section
namespace GA
open Go
inductive AV where
 | bool (b : Bool)
 | int (k : IntKind) (n : Int)
 | nilp
 | ptr (i o : Nat)
 | pim (cs : List AV)
 | sl (nl : Bool) (els : List AV)
 | se
 | gr (i n : Nat)
 | gp (i n e o : Nat)
 | nilm
 | mp (i : Nat)
 | nilf
 | fn (f : FuncId) (caps : List AV)
 | bf (f : FuncId) (first : List AV)
 | os (i m o n : Nat)
 | yld (i : Nat)
 | agg (cs : List AV)
 | tup (vs : List AV)
 | im (ks : List Int) (vs : List AV)
 deriving Inhabited
def AV.cells : AV -> List AV
 | .agg cs=>cs
 | a=>[a]
def AV.one : AV -> Bool
 | .agg _ | .tup _=>false
 | _=>true
def flat (els : List AV) : List AV:=els.flatMap AV.cells
inductive Blk where
 | dead
 | free
 | cells (cs : List AV)
 | grow (t : TypeId) (nl : Bool) (els : List AV)
 | map (es : List (Int × AV))
 | pm (es : List ((Int × Int) × AV))
 | raw (o : Obj)
 | lp (st : LoopState) (pend : Option Code) (f : FuncId) (tm : List (Nat × AV)) (ps : Array Tmp) (assign body : Code) (n : Nat)
 deriving Inhabited
def Blk.isFree : Blk -> Bool
 | .free=>true
 | _=>false
def Blk.isMap : Blk -> Bool
 | .map _ | .pm _=>true
 | _=>false
def Blk.isRec : Blk -> Bool
 | .raw _ | .lp ..=>true
 | _=>false
def live (H : List Blk) (i : Nat) : Prop:=∃ x,H[i]? = some x /\ x.isFree = false
theorem live.lt {H : List Blk} {i : Nat} (h : live H i) : i < H.length:=let ⟨_,h1,_⟩:=h;(List.getElem?_eq_some_iff.1 h1).1
theorem live.push {H : List Blk} {x : Blk} (h : x.isFree = false) : live (H ++ [x]) H.length:=⟨x,by simp,h⟩
theorem live.set {H : List Blk} {i : Nat} {x : Blk} (hi : i < H.length) (h : x.isFree = false) : live (H.set i x) i:=⟨x,by simp [hi],h⟩
theorem live.app {H l : List Blk} {i : Nat} (hi : i < H.length) (h : live (H ++ l) i) : live H i:=let ⟨x,h1,h2⟩:=h;⟨x,by rw [List.getElem?_append_left hi] at h1;exact h1,h2⟩
theorem live.of {H : List Blk} {i : Nat} {x : Blk} (h : H[i]? = some x) (h2 : x.isFree = false) : live H i:=⟨x,h,h2⟩
theorem live.nil {i : Nat} (h : live [] i) : False:=by obtain ⟨_,h,_⟩:=h;simp at h
def sz (P : Program) (t : TypeId) : Nat:=(P.info? t).elim 0 (·.size)
inductive Rep (P : Program) (h : Nat -> Option Obj) (β : Nat -> Value) (H : List Blk) : AV -> Value -> Prop
 | bool (b) : Rep P h β H (.bool b) (.bool b)
 | int (k n) : Rep P h β H (.int k n) (.int k n)
 | nilp : Rep P h β H .nilp (.pointer none)
 | ptr {i o b} (hi : live H i) (hb : ∀ cs,H[i]? = some (.cells cs) -> β i = .pointer (some ⟨b,0,none⟩)) : Rep P h β H (.ptr i o) (.pointer (some ⟨b,o,none⟩))
 | pim {b off c t fz cs} (us : Nat -> Value) (hone : ∀ x ∈ cs,x.one = true) (hb : h b = some (.cells c t fz)) (hc : ∀ (j : Nat) x,cs[j]? = some x -> c[off + j]? = some (us j))
   (hr : ∀ (j : Nat) x,cs[j]? = some x -> Rep P h β H x (us j)) : Rep P h β H (.pim cs) (.pointer (some ⟨b,off,none⟩))
 | slnil : Rep P h β H (.sl true []) (.slice none 0 0)
 | slemp {a cap} : Rep P h β H (.sl false []) (.slice (some a) 0 cap)
 | sl {b off cap c t fz els w n} (us : Nat -> Value) (hn : n = els.length) (hne : els ≠ []) (hb : h b = some (.cells c t fz)) (hw : ∀ e ∈ els,e.cells.length = w) (hw0 : 0 < w) (hone : ∀ x ∈ flat els,x.one = true) (hcap : els.length <= cap)
   (hc : ∀ (j : Nat) x,(flat els)[j]? = some x -> c[off + j]? = some (us j)) (hr : ∀ (j : Nat) x,(flat els)[j]? = some x -> Rep P h β H x (us j)) :
   Rep P h β H (.sl false els) (.slice (some ⟨b,off,none⟩) n cap)
 | se {a} : Rep P h β H .se (.slice (some a) 0 0)
 | gr {i n v} (ho : v.oneCell' = true) (hi : live H i) (hv : ∀ t nl els,H[i]? = some (.grow t nl els) -> n <= els.length /\ (els.length = n -> v = β i)) : Rep P h β H (.gr i n) v
 | gp {i n e o b q} (hi : live H i) (hv : ∀ t nl els,H[i]? = some (.grow t nl els) -> n <= els.length /\
   (els.length = n -> q = e * sz P t + o /\ ∃ len cap,β i = .slice (some ⟨b,0,none⟩) len cap)) : Rep P h β H (.gp i n e o) (.pointer (some ⟨b,q,none⟩))
 | nilm : Rep P h β H .nilm (.map none)
 | mp {i r} (hi : live H i) (hb : ∀ x,H[i]? = some x -> x.isMap = true -> β i = .map (some r)) : Rep P h β H (.mp i) (.map (some r))
 | nilf : Rep P h β H .nilf .nilFunc
 | yld {i b} (hi : live H i) (hb : ∀ x,H[i]? = some x -> x.isRec = true -> β i = .pointer (some ⟨b,0,none⟩)) : Rep P h β H (.yld i) (.func (.yield b) #[] #[])
 | fn {f caps vs} (us : Nat -> Value) (hs : vs.size = caps.length) (hc : ∀ (j : Nat) x,caps[j]? = some x -> vs[j]? = some (us j)) (hr : ∀ (j : Nat) x,caps[j]? = some x -> Rep P h β H x (us j)) :
   Rep P h β H (.fn f caps) (.func (.func f) #[] vs)
 | bf {f caps vs} (us : Nat -> Value) (hs : vs.size = caps.length) (hc : ∀ (j : Nat) x,caps[j]? = some x -> vs[j]? = some (us j)) (hr : ∀ (j : Nat) x,caps[j]? = some x -> Rep P h β H x (us j)) :
   Rep P h β H (.bf f caps) (.func (.func f) vs #[])
 | os {i m o n b q cap} (hi : live H i) (hn : n <= cap) (hc : ∀ cs,H[i]? = some (.cells cs) -> n ≠ 0 -> q = o /\ β i = .pointer (some ⟨b,0,none⟩))
   (hg : ∀ t nl els,H[i]? = some (.grow t nl els) -> m <= els.length /\ (els.length = m -> n ≠ 0 -> o + n <= m /\ q = o * sz P t /\ ∃ len cap',β i = .slice (some ⟨b,0,none⟩) len cap'))
   (hz : o = 0 -> ∀ t nl els,H[i]? = some (.grow t nl els) -> els.length = m -> q = 0 /\ n <= m /\ ∃ len,β i = .slice (some ⟨b,0,none⟩) len cap) :
   Rep P h β H (.os i m o n) (.slice (some ⟨b,q,none⟩) n cap)
 | agg {cs vs} (us : Nat -> Value) (hs : vs.size = cs.length) (hone : ∀ x ∈ cs,x.one = true) (hc : ∀ (j : Nat) x,cs[j]? = some x -> vs[j]? = some (us j)) (hr : ∀ (j : Nat) x,cs[j]? = some x -> Rep P h β H x (us j)) :
   Rep P h β H (.agg cs) (.agg vs)
 | tup {cs vs} (us : Nat -> Value) (hs : vs.size = cs.length) (hc : ∀ (j : Nat) x,cs[j]? = some x -> vs[j]? = some (us j)) (hr : ∀ (j : Nat) x,cs[j]? = some x -> Rep P h β H x (us j)) :
   Rep P h β H (.tup cs) (.tuple vs)
 | im {ks vs r ents clock} (us : Nat -> Value) (hb : h r = some (.map ents clock)) (hl : vs.length = ks.length) (hk : ents.size = ks.length) (hnd : ks.Nodup)
   (hc : ∀ (j : Nat) q x,ks[j]? = some q -> vs[j]? = some x -> ∃ born,ents[j]? = some { key:=.int .i64 q,val:=us j,born:=born }) (hr : ∀ (j : Nat) x,vs[j]? = some x -> Rep P h β H x (us j)) : Rep P h β H (.im ks vs) (.map (some r))
def Blk.to (β β' : Nat -> Value) (i : Nat) : Blk -> Blk -> Prop
 | .dead,b=>b = .dead
 | .free,_=>True
 | .cells _,b=>b = .dead \/ ∃ cs',b = .cells cs' /\ β' i = β i
 | .grow t _ els,b=>b = .dead \/ ∃ nl' els',b = .grow t nl' els' /\ els.length <= els'.length /\ (els'.length = els.length -> β' i = β i)
 | .map _,b=>b = .dead \/ ∃ es',b = .map es' /\ β' i = β i
 | .pm _,b=>b = .dead \/ ∃ es',b = .pm es' /\ β' i = β i
 | .raw _,b=>b = .dead \/ ∃ o',b = .raw o' /\ β' i = β i
 | .lp _ _ f tm ps x y n,b=>b = .dead \/ ∃ st' pend',b = .lp st' pend' f tm ps x y n /\ β' i = β i
structure Ext (h : Nat -> Option Obj) (β : Nat -> Value) (H : List Blk) (h' : Nat -> Option Obj) (β' : Nat -> Value) (H' : List Blk) : Prop where
 imm : ∀ b o,h b = some o -> h' b = some o
 len : H.length <= H'.length
 to : ∀ (i : Nat) (x x' : Blk),H[i]? = some x -> H'[i]? = some x' -> x.to β β' i x'
theorem Blk.to_refl (β : Nat -> Value) (i : Nat) (x : Blk) : x.to β β i x:=by
 cases x with
 | dead=>rfl
 | free=>trivial
 | cells cs=>exact .inr ⟨_,rfl,rfl⟩
 | grow t nl els=>exact .inr ⟨_,_,rfl,Nat.le_refl _,fun _=>rfl⟩
 | map es=>exact .inr ⟨_,rfl,rfl⟩
 | pm es=>exact .inr ⟨_,rfl,rfl⟩
 | raw o=>exact .inr ⟨_,rfl,rfl⟩
 | lp st pend f tm ps x y n=>exact .inr ⟨_,_,rfl,rfl⟩
theorem Blk.to_trans {β β' β'' : Nat -> Value} {i : Nat} {x y z : Blk} (h : x.to β β' i y) (k : y.to β' β'' i z) : x.to β β'' i z:=by
 cases x with
 | dead=>simp only [Blk.to] at h;subst h;exact k
 | free=>trivial
 | lp st pend f tm ps x y n =>
   rcases h with rfl | ⟨st',pend',rfl,hb⟩
   ·exact .inl k
   ·rcases k with rfl | ⟨st'',pend'',rfl,hb'⟩
    ·exact .inl rfl
    ·exact .inr ⟨st'',pend'',rfl,hb'.trans hb⟩
 | cells cs =>
   rcases h with rfl | ⟨cs',rfl,hb⟩
   ·exact .inl k
   ·rcases k with rfl | ⟨cs'',rfl,hb'⟩
    ·exact .inl rfl
    ·exact .inr ⟨cs'',rfl,hb'.trans hb⟩
 | map es =>
   rcases h with rfl | ⟨cs',rfl,hb⟩
   ·exact .inl k
   ·rcases k with rfl | ⟨cs'',rfl,hb'⟩
    ·exact .inl rfl
    ·exact .inr ⟨cs'',rfl,hb'.trans hb⟩
 | pm es =>
   rcases h with rfl | ⟨cs',rfl,hb⟩
   ·exact .inl k
   ·rcases k with rfl | ⟨cs'',rfl,hb'⟩
    ·exact .inl rfl
    ·exact .inr ⟨cs'',rfl,hb'.trans hb⟩
 | raw o =>
   rcases h with rfl | ⟨cs',rfl,hb⟩
   ·exact .inl k
   ·rcases k with rfl | ⟨cs'',rfl,hb'⟩
    ·exact .inl rfl
    ·exact .inr ⟨cs'',rfl,hb'.trans hb⟩
 | grow t nl els =>
   rcases h with rfl | ⟨nl',els',rfl,hl,hb⟩
   ·exact .inl k
   ·rcases k with rfl | ⟨nl'',els'',rfl,hl',hb'⟩
    ·exact .inl rfl
    ·exact .inr ⟨nl'',els'',rfl,by omega,fun e=>(hb' (by omega)).trans (hb (by omega))⟩
theorem Ext.refl (h : Nat -> Option Obj) (β : Nat -> Value) (H : List Blk) : Ext h β H h β H:=
 ⟨fun _ _ h=>h,Nat.le_refl _,fun i x x' e e'=>by rw [e] at e';cases e';exact Blk.to_refl _ _ _⟩
theorem Ext.trans {h h' h'' : Nat -> Option Obj} {β β' β'' : Nat -> Value} {H H' H'' : List Blk} (a : Ext h β H h' β' H') (b : Ext h' β' H' h'' β'' H'') : Ext h β H h'' β'' H'':=by
 refine ⟨fun x o e=>b.imm _ _ (a.imm _ _ e),Nat.le_trans a.len b.len,fun i x x'' e e''=>?_⟩
 have hi : i < H.length:=(List.getElem?_eq_some_iff.1 e).1
 have hi' : i < H'.length:=Nat.lt_of_lt_of_le hi a.len
 have e' : H'[i]? = some H'[i]:=List.getElem?_eq_getElem hi'
 exact Blk.to_trans (a.to i x _ e e') (b.to i _ x'' e' e'')
theorem Ext.live {h h' : Nat -> Option Obj} {β β' : Nat -> Value} {H H' : List Blk} (E : Ext h β H h' β' H') {i : Nat} (l : live H i) : live H' i:=by
 obtain ⟨x,h1,h2⟩:=l
 have hi : i < H'.length:=Nat.lt_of_lt_of_le (List.getElem?_eq_some_iff.1 h1).1 E.len
 refine ⟨H'[i],List.getElem?_eq_getElem hi,?_⟩
 have h3:=E.to i x _ h1 (List.getElem?_eq_getElem hi)
 generalize H'[i] = y at h3
 cases x with
 | free=>cases h2
 | dead=>simp only [Blk.to] at h3;subst h3;rfl
 | cells cs=>rcases h3 with rfl | ⟨_,rfl,_⟩ <;> rfl
 | grow t nl els=>rcases h3 with rfl | ⟨_,_,rfl,_⟩ <;> rfl
 | map es=>rcases h3 with rfl | ⟨_,rfl,_⟩ <;> rfl
 | pm es=>rcases h3 with rfl | ⟨_,rfl,_⟩ <;> rfl
 | raw o=>rcases h3 with rfl | ⟨_,rfl,_⟩ <;> rfl
 | lp st pend f tm ps x y n=>rcases h3 with rfl | ⟨_,_,rfl,_⟩ <;> rfl
theorem Ext.rep {P : Program} {h h' : Nat -> Option Obj} {β β' : Nat -> Value} {H H' : List Blk} (E : Ext h β H h' β' H') {a : AV} {v : Value} (r : Rep P h β H a v) : Rep P h' β' H' a v:=by
 induction r with
 | bool b=>exact .bool b
 | int k n=>exact .int k n
 | nilp=>exact .nilp
 | @ptr i o b hi hb =>
   refine .ptr (E.live hi) fun cs e=>?_
   obtain ⟨x,hx,hf⟩:=hi
   have h1:=E.to i x _ hx e
   cases x with
   | free=>cases hf
   | cells cs0 =>
     rcases h1 with h1 | ⟨_,_,h1⟩
     ·cases h1
     ·rw [h1];exact hb cs0 hx
   | dead=>simp [Blk.to] at h1
   | grow t nl els=>simp [Blk.to] at h1
   | map es=>simp [Blk.to] at h1
   | pm es=>simp [Blk.to] at h1
   | raw o=>simp [Blk.to] at h1
   | lp st pend f tm ps x y n=>simp [Blk.to] at h1
 | pim us hone hb hc _ ih=>exact .pim us hone (E.imm _ _ hb) hc ih
 | slnil=>exact .slnil
 | slemp=>exact .slemp
 | sl us hn hne hb hw hw0 hone hcap hc _ ih=>exact .sl us hn hne (E.imm _ _ hb) hw hw0 hone hcap hc ih
 | se=>exact .se
 | @gr i n v ho hi hv =>
   refine .gr ho (E.live hi) fun t nl els e=>?_
   obtain ⟨x,hx,hf⟩:=hi
   have h1:=E.to i x _ hx e
   cases x with
   | free=>cases hf
   | grow t0 nl0 els0 =>
     rcases h1 with h1 | ⟨nl',els',h1,hl,hb⟩
     ·cases h1
     ·cases h1
      obtain ⟨h2,h3⟩:=hv t nl0 els0 hx
      exact ⟨by omega,fun hn=>by rw [hb (by omega)];exact h3 (by omega)⟩
   | dead=>simp [Blk.to] at h1
   | cells cs=>simp [Blk.to] at h1
   | map es=>simp [Blk.to] at h1
   | pm es=>simp [Blk.to] at h1
   | raw o=>simp [Blk.to] at h1
   | lp st pend f tm ps x y n=>simp [Blk.to] at h1
 | @gp i n e o b q hi hv =>
   refine .gp (E.live hi) fun t nl els e=>?_
   obtain ⟨x,hx,hf⟩:=hi
   have h1:=E.to i x _ hx e
   cases x with
   | free=>cases hf
   | grow t0 nl0 els0 =>
     rcases h1 with h1 | ⟨nl',els',h1,hl,hb⟩
     ·cases h1
     ·cases h1
      obtain ⟨h2,h3⟩:=hv t nl0 els0 hx
      exact ⟨by omega,fun hn=>by rw [hb (by omega)];exact h3 (by omega)⟩
   | dead=>simp [Blk.to] at h1
   | cells cs=>simp [Blk.to] at h1
   | map es=>simp [Blk.to] at h1
   | pm es=>simp [Blk.to] at h1
   | raw o=>simp [Blk.to] at h1
   | lp st pend f tm ps x y n=>simp [Blk.to] at h1
 | nilm=>exact .nilm
 | @mp i r hi hb =>
   refine .mp (E.live hi) fun y e hy=>?_
   obtain ⟨x,hx,hf⟩:=hi
   have h1:=E.to i x _ hx e
   cases x with
   | free=>cases hf
   | map cs0 =>
     rcases h1 with h1 | ⟨_,_,h1⟩
     ·subst h1;cases hy
     ·rw [h1];exact hb _ hx rfl
   | pm cs0 =>
     rcases h1 with h1 | ⟨_,_,h1⟩
     ·subst h1;cases hy
     ·rw [h1];exact hb _ hx rfl
   | dead=>simp [Blk.to] at h1;subst h1;cases hy
   | grow t nl els=>rcases h1 with rfl | ⟨_,_,rfl,_⟩ <;> cases hy
   | cells es=>rcases h1 with rfl | ⟨_,rfl,_⟩ <;> cases hy
   | raw o=>rcases h1 with rfl | ⟨_,rfl,_⟩ <;> cases hy
   | lp st pend f tm ps x y n=>rcases h1 with rfl | ⟨_,_,rfl,_⟩ <;> cases hy
 | nilf=>exact .nilf
 | @yld i b hi hb =>
   refine .yld (E.live hi) fun y e hy=>?_
   obtain ⟨x,hx,hf⟩:=hi
   have h1:=E.to i x _ hx e
   cases x with
   | free=>cases hf
   | raw o =>
     rcases h1 with h1 | ⟨_,_,h1⟩
     ·subst h1;cases hy
     ·rw [h1];exact hb _ hx rfl
   | lp st pend f tm ps x y n =>
     rcases h1 with h1 | ⟨_,_,_,h1⟩
     ·subst h1;cases hy
     ·rw [h1];exact hb _ hx rfl
   | dead=>simp [Blk.to] at h1;subst h1;cases hy
   | cells cs=>rcases h1 with rfl | ⟨_,rfl,_⟩ <;> cases hy
   | grow t nl els=>rcases h1 with rfl | ⟨_,_,rfl,_⟩ <;> cases hy
   | map es=>rcases h1 with rfl | ⟨_,rfl,_⟩ <;> cases hy
   | pm es=>rcases h1 with rfl | ⟨_,rfl,_⟩ <;> cases hy
 | fn us hs hc _ ih=>exact .fn us hs hc ih
 | bf us hs hc _ ih=>exact .bf us hs hc ih
 | @os i m o n b q cap hi hn hc hg hz =>
   obtain ⟨x,hx,hf⟩:=id hi
   refine .os (E.live hi) hn (fun cs e hne=>?_) (fun t nl els e=>?_) fun ho t nl els e hlen=>?_
   ·have h1:=E.to i x _ hx e
    cases x with
    | free=>cases hf
    | cells cs0 =>
      rcases h1 with h1 | ⟨_,_,h1⟩
      ·cases h1
      ·rw [h1];exact hc cs0 hx hne
    | dead=>simp [Blk.to] at h1
    | grow t nl els=>simp [Blk.to] at h1
    | map es=>simp [Blk.to] at h1
    | pm es=>simp [Blk.to] at h1
    | raw o=>simp [Blk.to] at h1
    | lp st pend f tm ps x y n=>simp [Blk.to] at h1
   ·have h1:=E.to i x _ hx e
    cases x with
    | free=>cases hf
    | grow t0 nl0 els0 =>
      rcases h1 with h1 | ⟨nl',els',h1,hl,hb⟩
      ·cases h1
      ·cases h1
       obtain ⟨h2,h3⟩:=hg t nl0 els0 hx
       exact ⟨by omega,fun hn hz=>by rw [hb (by omega)];exact h3 (by omega) hz⟩
    | dead=>simp [Blk.to] at h1
    | cells cs=>simp [Blk.to] at h1
    | map es=>simp [Blk.to] at h1
    | pm es=>simp [Blk.to] at h1
    | raw o=>simp [Blk.to] at h1
    | lp st pend f tm ps x y n=>simp [Blk.to] at h1
   ·have h1:=E.to i x _ hx e
    cases x with
    | free=>cases hf
    | grow t0 nl0 els0 =>
      rcases h1 with h1 | ⟨nl',els',h1,hl,hb⟩
      ·cases h1
      ·cases h1
       have h4:=(hg t nl0 els0 hx).1
       rw [hb (by omega)]
       exact hz ho t nl0 els0 hx (by omega)
    | dead=>simp [Blk.to] at h1
    | cells cs=>simp [Blk.to] at h1
    | map es=>simp [Blk.to] at h1
    | pm es=>simp [Blk.to] at h1
    | raw o=>simp [Blk.to] at h1
    | lp st pend f tm ps x y n=>simp [Blk.to] at h1
 | agg us hs hone hc _ ih=>exact .agg us hs hone hc ih
 | tup us hs hc _ ih=>exact .tup us hs hc ih
 | im us hb h1 h2 h3 h4 _ ih=>exact .im us (E.imm _ _ hb) h1 h2 h3 h4 ih
theorem Rep.one {P : Program} {h : Nat -> Option Obj} {β : Nat -> Value} {H : List Blk} {a : AV} {v : Value} (r : Rep P h β H a v) (ho : a.one = true) : v.oneCell' = true:=by
 cases r <;> first | rfl | assumption|(simp [AV.one] at ho;done)
end GA
end
section
namespace GA
open Go Go.RowKit
def anchor : Value -> Option Nat
 | .pointer (some a)=>some a.block
 | .slice (some a) _ cap=>if cap = 0 then none else some a.block
 | .map (some r)=>some r
 | _=>none
structure Env0 where
 os : Os
 tape : Nat -> Question -> Nat
 out : Array (Nat × ByteArray)
structure Env where
 b : Env0
 fr : Nat -> Option Obj
 en : Nat -> Option Obj
def World.env (w : World) : Env0:=⟨w.os,w.tape,w.output⟩
def zP (P : Program) (h : Nat -> Option Obj) (β : Nat -> Value) (H : List Blk) (cs : List AV) (c : Array Value) : Prop:=
 ∃ us : Nat -> Value,(∀ (j : Nat) x,cs[j]? = some x -> c[j]? = some (us j)) /\ (∀ (j : Nat) x,cs[j]? = some x -> Rep P h β H x (us j))
def kO (P : Program) (h : Nat -> Option Obj) (β : Nat -> Value) (H : List Blk) (es : List (Int × AV)) (ents : Array Go.MapEntry) : Prop:=
 ents.size = es.length /\ ∃ us : Nat -> Value,∀ (j : Nat) k x,es[j]? = some (k,x) -> Rep P h β H x (us j) /\ ∃ born,ents[j]? = some { key:=.int .i64 k,val:=us j,born:=born }
def kr (P : Program) (h : Nat -> Option Obj) (β : Nat -> Value) (H : List Blk) (es : List ((Int × Int) × AV)) (ents : Array Go.MapEntry) : Prop:=
 ents.size = es.length /\ ∃ us : Nat -> Value,∀ (j : Nat) k x,es[j]? = some (k,x) -> Rep P h β H x (us j) /\ ∃ born,ents[j]? = some { key:=.agg #[.int .i64 k.1,.int .i64 k.2],val:=us j,born:=born }
def jN (P : Program) (h : Nat -> Option Obj) (β : Nat -> Value) (H : List Blk) (heap : Array Obj) (i : Nat) : Blk -> Prop
 | .dead=>True
 | .free=>True
 | .cells cs=>∃ b c t,β i = .pointer (some ⟨b,0,none⟩) /\ heap[b]? = some (.cells c t (0,0)) /\ c.size = cs.length /\ (∀ x ∈ cs,x.one = true) /\ zP P h β H cs c
 | .grow t nl els=>(nl = true /\ els = [] /\ β i = .slice none 0 0) \/ (nl = false /\ els = [] /\ ∃ a,β i = .slice (some a) 0 0) \/
   (nl = false /\ ∃ b cap c,β i = .slice (some ⟨b,0,none⟩) els.length cap /\ 0 < cap /\ heap[b]? = some (.cells c t (0,0)) /\ els.length <= cap /\ cap <= maxLen /\ c.size = cap * sz P t /\ 0 < sz P t /\
    (∀ e ∈ els,e.cells.length = sz P t) /\ (∀ x ∈ flat els,x.one = true) /\ zP P h β H (flat els) c)
 | .raw o=>∃ b,β i = .pointer (some ⟨b,0,none⟩) /\ heap[b]? = some o
 | .lp st pend f tm ps x y n=>∃ b dfr tmps,β i = .pointer (some ⟨b,0,none⟩) /\ heap[b]? = some (.loop { state:=st,pending:=pend,fn:=f,tmps:=tmps,params:=ps,assign:=x,body:=y,defers:=dfr }) /\ tmps.size = n /\
   ∀ (t : Nat) r,(t,r) ∈ tm -> ∃ v,tmps[t]? = some v /\ Rep P h β H r v
 | .map es=>∃ r ents clock,β i = .map (some r) /\ heap[r]? = some (.map ents clock) /\ (es.map (·.1)).Nodup /\ kO P h β H es ents
 | .pm es=>∃ r ents clock,β i = .map (some r) /\ heap[r]? = some (.map ents clock) /\ (es.map (·.1)).Nodup /\ kr P h β H es ents
def blkOf (β : Nat -> Value) (H : List Blk) (i : Nat) : Option Nat:=
 match H[i]? with
 | none | some .dead | some .free=>none
 | some _=>anchor (β i)
structure SR (P : Program) (E : Env) (h : Nat -> Option Obj) (β : Nat -> Value) (H : List Blk) (w : World) : Prop where
 env : World.env w = E.b
 imm : ∀ b o,h b = some o -> w.heap[b]? = some o
 blk : ∀ (i : Nat) x,H[i]? = some x -> jN P h β H w.heap i x
 own : ∀ i j x,blkOf β H i = some x -> blkOf β H j = some x -> i = j
 fresh : ∀ i x,blkOf β H i = some x -> h x = none
 frm : ∀ b o,E.fr b = some o -> w.heap[b]? = some o /\ h b = none
 fro : ∀ i x,blkOf β H i = some x -> E.fr x = none
section
variable {P : Program} {E : Env} {h h' : Nat -> Option Obj} {β β' : Nat -> Value} {H H' : List Blk} {w w' : World}
theorem SR.en (s : SR P E h β H w) (x : Nat -> Option Obj) : SR P ⟨E.b,E.fr,x⟩ h β H w:=⟨s.env,s.imm,s.blk,s.own,s.fresh,s.frm,s.fro⟩
theorem SR.unen {x : Nat -> Option Obj} (s : SR P ⟨E.b,E.fr,x⟩ h β H w) : SR P E h β H w:=⟨s.env,s.imm,s.blk,s.own,s.fresh,s.frm,s.fro⟩
theorem zP.ext (X : Ext h β H h' β' H') {cs : List AV} {c : Array Value} (k : zP P h β H cs c) : zP P h' β' H' cs c:=
 let ⟨us,a,b⟩:=k
 ⟨us,a,fun j x e=>X.rep (b j x e)⟩
theorem kO.ext (X : Ext h β H h' β' H') {es : List (Int × AV)} {c : Array Go.MapEntry} (k : kO P h β H es c) : kO P h' β' H' es c:=
 let ⟨s,us,a⟩:=k
 ⟨s,us,fun j q x e=>let ⟨r,b⟩:=a j q x e;⟨X.rep r,b⟩⟩
theorem kr.ext (X : Ext h β H h' β' H') {es : List ((Int × Int) × AV)} {c : Array Go.MapEntry} (k : kr P h β H es c) : kr P h' β' H' es c:=
 let ⟨s,us,a⟩:=k
 ⟨s,us,fun j q x e=>let ⟨r,b⟩:=a j q x e;⟨X.rep r,b⟩⟩
theorem jN.keep (X : Ext h β H h' β' H') {heap heap' : Array Obj} {i : Nat} {x : Blk} (hb : β' i = β i) (hh : x ≠ .dead -> x ≠ .free -> ∀ b,anchor (β i) = some b -> heap'[b]? = heap[b]?)
  (k : jN P h β H heap i x) : jN P h' β' H' heap' i x:=by
 cases x with
 | dead=>trivial
 | free=>trivial
 | lp st pend f tm ps x y n =>
   obtain ⟨b,dfr,tmps,h1,h2,h3,h4⟩:=k
   exact ⟨b,dfr,tmps,hb.trans h1,by rw [hh (by simp) (by simp) b (by rw [h1];rfl)];exact h2,h3,fun t r e=>let ⟨v,a,c⟩:=h4 t r e;⟨v,a,X.rep c⟩⟩
 | cells cs =>
   obtain ⟨b,c,t,h1,h2,h3,h4,h5⟩:=k
   exact ⟨b,c,t,hb.trans h1,by rw [hh (by simp) (by simp) b (by rw [h1];rfl)];exact h2,h3,h4,h5.ext X⟩
 | grow t nl els =>
   rcases k with ⟨h1,h2,h3⟩ | ⟨h1,h2,a,h3⟩ | ⟨h1,b,cap,c,h2,h3,h4,h5,h6,h7,h8,h9,h10,h11⟩
   ·exact .inl ⟨h1,h2,hb.trans h3⟩
   ·exact .inr (.inl ⟨h1,h2,a,hb.trans h3⟩)
   ·exact .inr (.inr ⟨h1,b,cap,c,hb.trans h2,h3,by rw [hh (by simp) (by simp) b (by rw [h2];simp [anchor];omega)];exact h4,h5,h6,h7,h8,h9,h10,h11.ext X⟩)
 | map es =>
   obtain ⟨r,ents,clock,h1,h2,h3,h4⟩:=k
   exact ⟨r,ents,clock,hb.trans h1,by rw [hh (by simp) (by simp) r (by rw [h1];rfl)];exact h2,h3,h4.ext X⟩
 | pm es =>
   obtain ⟨r,ents,clock,h1,h2,h3,h4⟩:=k
   exact ⟨r,ents,clock,hb.trans h1,by rw [hh (by simp) (by simp) r (by rw [h1];rfl)];exact h2,h3,h4.ext X⟩
 | raw o =>
   obtain ⟨b,h1,h2⟩:=k
   exact ⟨b,hb.trans h1,by rw [hh (by simp) (by simp) b (by rw [h1];rfl)];exact h2⟩
theorem SR.lt (s : SR P E h β H w) {i b : Nat} (hb : blkOf β H i = some b) : b < w.heap.size:=by
 unfold blkOf at hb
 cases hx : H[i]? with
 | none=>simp [hx] at hb
 | some x =>
   have k:=s.blk i x hx
   cases x with
   | dead=>simp [hx] at hb
   | free=>simp [hx] at hb
   | lp st pend f tm ps x y n =>
     obtain ⟨b',dfr,tmps,h1,h2,_⟩:=k
     simp [hx,h1,anchor] at hb;subst hb;exact (Array.getElem?_eq_some_iff.1 h2).1
   | cells cs =>
     obtain ⟨b',c,t,h1,h2,_⟩:=k
     simp [hx,h1,anchor] at hb;subst hb;exact (Array.getElem?_eq_some_iff.1 h2).1
   | grow t nl els =>
     rcases k with ⟨h1,h2,h3⟩ | ⟨h1,h2,a,h3⟩ | ⟨h1,b',cap,c,h2,h3,h4,_⟩
     ·simp [hx,h3,anchor] at hb
     ·simp [hx,h3,anchor] at hb
     ·simp [hx,h2,anchor] at hb;obtain ⟨_,hb⟩:=hb;subst hb;exact (Array.getElem?_eq_some_iff.1 h4).1
   | map es =>
     obtain ⟨r,ents,clock,h1,h2,_⟩:=k
     simp [hx,h1,anchor] at hb;subst hb;exact (Array.getElem?_eq_some_iff.1 h2).1
   | pm es =>
     obtain ⟨r,ents,clock,h1,h2,_⟩:=k
     simp [hx,h1,anchor] at hb;subst hb;exact (Array.getElem?_eq_some_iff.1 h2).1
   | raw o =>
     obtain ⟨r,h1,h2⟩:=k
     simp [hx,h1,anchor] at hb;subst hb;exact (Array.getElem?_eq_some_iff.1 h2).1
theorem SR.fr_lt (s : SR P E h β H w) {b : Nat} {o : Obj} (hb : E.fr b = some o) : b < w.heap.size:=(Array.getElem?_eq_some_iff.1 (s.frm b o hb).1).1
theorem SR.imm_lt (s : SR P E h β H w) {b : Nat} {o : Obj} (hb : h b = some o) : b < w.heap.size:=(Array.getElem?_eq_some_iff.1 (s.imm b o hb)).1
theorem SR.same (s : SR P E h β H w) (he : World.env w' = World.env w) (hh : w'.heap = w.heap) : SR P E h β H w':=
 ⟨he.trans s.env,by rw [hh];exact s.imm,by rw [hh];exact s.blk,s.own,s.fresh,by rw [hh];exact s.frm,s.fro⟩
theorem SR.drew (s : SR P E h β H w) : SR P E h β H w.drew:=s.same rfl rfl
theorem SR.grown (s : SR P E h β H w) (X : Ext h β H h' β' H') (he : World.env w' = E.b) (himm : ∀ b o,h' b = some o -> w'.heap[b]? = some o)
  (hold : ∀ (i : Nat) x,H'[i]? = some x -> (H[i]? = some x /\ β' i = β i /\ ∀ b,blkOf β H i = some b -> w'.heap[b]? = w.heap[b]?) \/ jN P h' β' H' w'.heap i x)
  (hown : ∀ i j x,blkOf β' H' i = some x -> blkOf β' H' j = some x -> i = j) (hfresh : ∀ i x,blkOf β' H' i = some x -> h' x = none)
  (hfrm : ∀ b o,E.fr b = some o -> w'.heap[b]? = some o /\ h' b = none) (hfro : ∀ i x,blkOf β' H' i = some x -> E.fr x = none) : SR P E h' β' H' w':=
 ⟨he,himm,fun i x e=>by
  rcases hold i x e with ⟨h1,h2,h3⟩ | h1
  ·exact (s.blk i x h1).keep X h2 fun hd hd' b hb=>h3 b (by unfold blkOf;rw [h1];cases x <;> first|exact absurd rfl hd|exact absurd rfl hd'|exact hb)
  ·exact h1,hown,hfresh,hfrm,hfro⟩
theorem SR.alloc_imm (s : SR P E h β H w) (o : Obj) :
  SR P E (fun b=>if b = w.heap.size then some o else h b) β H (w.alloc o) /\ Ext h β H (fun b=>if b = w.heap.size then some o else h b) β H:=by
 have hn : h w.heap.size = none:=by
  cases hx : h w.heap.size with
  | none=>rfl
  | some o'=>have:=s.imm_lt hx;omega
 have X : Ext h β H (fun b=>if b = w.heap.size then some o else h b) β H:=by
  refine ⟨fun b o' e=>?_,Nat.le_refl _,fun i x x' e e'=>by rw [e] at e';cases e';exact Blk.to_refl _ _ _⟩
  by_cases hb : b = w.heap.size
  ·subst hb;rw [hn] at e;cases e
  ·simp [hb,e]
 refine ⟨s.grown X s.env ?_ ?_ s.own ?_ (fun b o e=>?_) s.fro,X⟩
 ·intro b o' e
  by_cases hb : b = w.heap.size
  ·subst hb;simp at e;subst e;exact heap_alloc_new w o
  ·simp [hb] at e;have:=s.imm_lt e;rw [Below.heap_alloc _ _ _ this];exact s.imm _ _ e
 ·intro i x e
  exact .inl ⟨e,rfl,fun b hb=>Below.heap_alloc _ _ _ (s.lt hb)⟩
 ·intro i x e
  have:=s.lt e
  rw [if_neg (by omega)]
  exact s.fresh i x e
 ·have:=s.fr_lt e
  exact ⟨by rw [Below.heap_alloc _ _ _ this];exact (s.frm b o e).1,by rw [if_neg (by omega)];exact (s.frm b o e).2⟩
def upb (β : Nat -> Value) (i : Nat) (v : Value) : Nat -> Value:=fun j=>if j = i then v else β j
theorem yK {i : Nat} (hb : β' i = β i) (hx : H'[i]? = H[i]?) : blkOf β' H' i = blkOf β H i:=by
 unfold blkOf;rw [hx,hb]
theorem yr {i b : Nat} (h1 : blkOf β H i = some b) : i < H.length /\ anchor (β i) = some b:=by
 unfold blkOf at h1
 cases hx : H[i]? with
 | none=>simp [hx] at h1
 | some x=>exact ⟨(List.getElem?_eq_some_iff.1 hx).1,by cases x <;> simp_all⟩
theorem SR.push (s : SR P E h β H w) (he : World.env w' = E.b) (hk : ∀ k,k < w.heap.size -> w'.heap[k]? = w.heap[k]?) (v : Value) (x : Blk) (hv : ∀ b,anchor v = some b -> w.heap.size <= b)
  (hx : Ext h β H h (upb β H.length v) (H ++ [x]) -> jN P h (upb β H.length v) (H ++ [x]) w'.heap H.length x) :
  SR P E h (upb β H.length v) (H ++ [x]) w' /\ Ext h β H h (upb β H.length v) (H ++ [x]):=by
 have hβ : ∀ i,i < H.length -> upb β H.length v i = β i:=fun i hi=>by simp [upb,show i ≠ H.length by omega]
 have hg : ∀ i,i < H.length -> (H ++ [x])[i]? = H[i]?:=fun i hi=>List.getElem?_append_left hi
 have X : Ext h β H h (upb β H.length v) (H ++ [x]):=by
  refine ⟨fun _ _ h=>h,by simp,fun i y y' e e'=>?_⟩
  have hi:=(List.getElem?_eq_some_iff.1 e).1
  rw [hg i hi,e] at e';cases e'
  cases y with
  | dead=>rfl
  | free=>trivial
  | lp st pend f tm ps x y n=>exact .inr ⟨_,_,rfl,hβ i hi⟩
  | cells cs=>exact .inr ⟨_,rfl,hβ i hi⟩
  | grow t nl els=>exact .inr ⟨_,_,rfl,Nat.le_refl _,fun _=>hβ i hi⟩
  | map es=>exact .inr ⟨_,rfl,hβ i hi⟩
  | pm es=>exact .inr ⟨_,rfl,hβ i hi⟩
  | raw o=>exact .inr ⟨_,rfl,hβ i hi⟩
 have hbo : ∀ i b,blkOf (upb β H.length v) (H ++ [x]) i = some b -> (i < H.length /\ blkOf β H i = some b) \/ (i = H.length /\ w.heap.size <= b):=by
  intro i b hb
  rcases Nat.lt_or_ge i H.length with hi | hi
  ·exact .inl ⟨hi,by rw [<- hb];exact (yK (hβ i hi) (hg i hi)).symm⟩
  ·have h2:=yr hb
   have : i = H.length:=by have:=h2.1;simp at this;omega
   subst this
   exact .inr ⟨rfl,hv b (by have:=h2.2;simpa [upb] using this)⟩
 refine ⟨s.grown X he (fun b o e=>by rw [hk b (s.imm_lt e)];exact s.imm _ _ e) (fun i y e=>?_) (fun i j b hi hj=>?_) (fun i b hi=>?_) (fun b o e=>⟨by rw [hk b (s.fr_lt e)];exact (s.frm b o e).1,(s.frm b o e).2⟩) (fun i b hi=>?_),X⟩
 ·rcases Nat.lt_or_ge i H.length with hi | hi
  ·rw [hg i hi] at e
   exact .inl ⟨e,hβ i hi,fun b hb=>hk b (s.lt hb)⟩
  ·have h2:=(List.getElem?_eq_some_iff.1 e).1
   have : i = H.length:=by simp at h2;omega
   subst this
   simp at e;subst e
   exact .inr (hx X)
 ·rcases hbo i b hi with ⟨h1,h2⟩ | ⟨h1,h2⟩ <;> rcases hbo j b hj with ⟨h3,h4⟩ | ⟨h3,h4⟩
  ·exact s.own _ _ _ h2 h4
  ·have:=s.lt h2;omega
  ·have:=s.lt h4;omega
  ·omega
 ·rcases hbo i b hi with ⟨h1,h2⟩ | ⟨h1,h2⟩
  ·exact s.fresh _ _ h2
  ·cases hx : h b with
   | none=>rfl
   | some o=>have:=s.imm_lt hx;omega
 ·rcases hbo i b hi with ⟨h1,h2⟩ | ⟨h1,h2⟩
  ·exact s.fro _ _ h2
  ·cases hx : E.fr b with
   | none=>rfl
   | some o=>have:=s.fr_lt hx;omega
theorem SR.modify (s : SR P E h β H w) {i : Nat} {x x' : Blk} (hi : H[i]? = some x) (hβ : ∀ j,j ≠ i -> β' j = β j) (hto : x.to β β' i x') (he : World.env w' = E.b)
  (hk : ∀ k,k < w.heap.size -> blkOf β H i ≠ some k -> w'.heap[k]? = w.heap[k]?)
  (ha : ∀ b,anchor (β' i) = some b -> blkOf β H i = some b \/ w.heap.size <= b)
  (hx : Ext h β H h β' (H.set i x') -> jN P h β' (H.set i x') w'.heap i x') : SR P E h β' (H.set i x') w' /\ Ext h β H h β' (H.set i x'):=by
 have hlt:=(List.getElem?_eq_some_iff.1 hi).1
 have hg : ∀ j,j ≠ i -> (H.set i x')[j]? = H[j]?:=fun j hj=>by rw [List.getElem?_set_ne (Ne.symm hj)]
 have hgi : (H.set i x')[i]? = some x':=by simp [hlt]
 have X : Ext h β H h β' (H.set i x'):=by
  refine ⟨fun _ _ h=>h,by simp,fun j y y' e e'=>?_⟩
  by_cases hj : j = i
  ·subst hj;rw [hgi] at e';cases e';rw [hi] at e;cases e;exact hto
  ·rw [hg j hj,e] at e';cases e'
   cases y with
   | dead=>rfl
   | free=>trivial
   | lp st pend f tm ps x y n=>exact .inr ⟨_,_,rfl,hβ j hj⟩
   | cells cs=>exact .inr ⟨_,rfl,hβ j hj⟩
   | grow t nl els=>exact .inr ⟨_,_,rfl,Nat.le_refl _,fun _=>hβ j hj⟩
   | map es=>exact .inr ⟨_,rfl,hβ j hj⟩
   | pm es=>exact .inr ⟨_,rfl,hβ j hj⟩
   | raw o=>exact .inr ⟨_,rfl,hβ j hj⟩
 have hbo : ∀ j b,blkOf β' (H.set i x') j = some b -> (j ≠ i /\ blkOf β H j = some b) \/ (j = i /\ (blkOf β H i = some b \/ w.heap.size <= b)):=by
  intro j b hb
  by_cases hj : j = i
  ·subst hj;exact .inr ⟨rfl,ha b (yr hb).2⟩
  ·exact .inl ⟨hj,by rw [<- hb];exact (yK (hβ j hj) (hg j hj)).symm⟩
 refine ⟨s.grown X he (fun b o e=>?_) (fun j y e=>?_) (fun j k b hj hk'=>?_) (fun j b hj=>?_) (fun b o e=>⟨?_,(s.frm b o e).2⟩) (fun j b hj=>?_),X⟩
 ·rw [hk b (s.imm_lt e) (fun hh=>by rw [s.fresh _ _ hh] at e;cases e)];exact s.imm _ _ e
 ·by_cases hj : j = i
  ·subst hj;rw [hgi] at e;cases e;exact .inr (hx X)
  ·rw [hg j hj] at e
   exact .inl ⟨e,hβ j hj,fun b hb=>hk b (s.lt hb) (fun hh=>hj (s.own _ _ _ hb hh))⟩
 ·rcases hbo j b hj with ⟨h1,h2⟩ | ⟨h1,h2⟩ <;> rcases hbo k b hk' with ⟨h3,h4⟩ | ⟨h3,h4⟩
  ·exact s.own _ _ _ h2 h4
  ·rcases h4 with h4 | h4
   ·rw [s.own _ _ _ h2 h4,h3]
   ·have:=s.lt h2;omega
  ·rcases h2 with h2 | h2
   ·rw [s.own _ _ _ h4 h2,h1]
   ·have:=s.lt h4;omega
  ·rw [h1,h3]
 ·rcases hbo j b hj with ⟨h1,h2⟩ | ⟨h1,h2 | h2⟩
  ·exact s.fresh _ _ h2
  ·exact s.fresh _ _ h2
  ·cases hx : h b with
   | none=>rfl
   | some o=>have:=s.imm_lt hx;omega
 ·rw [hk b (s.fr_lt e) (fun hh=>by rw [s.fro _ _ hh] at e;cases e)];exact (s.frm b o e).1
 ·rcases hbo j b hj with ⟨h1,h2⟩ | ⟨h1,h2 | h2⟩
  ·exact s.fro _ _ h2
  ·exact s.fro _ _ h2
  ·cases hx : E.fr b with
   | none=>rfl
   | some o=>have:=s.fr_lt hx;omega
theorem SR.freeze (s : SR P E h β H w) {i : Nat} {x : Blk} (hi : H[i]? = some x) :
  ∃ h',SR P E h' β (H.set i .dead) w /\ Ext h β H h' β (H.set i .dead) /\ (∀ b o,blkOf β H i = some b -> w.heap[b]? = some o -> h' b = some o):=by
 have hlt:=(List.getElem?_eq_some_iff.1 hi).1
 have hg : ∀ j,j ≠ i -> (H.set i .dead)[j]? = H[j]?:=fun j hj=>by rw [List.getElem?_set_ne (Ne.symm hj)]
 have hgi : (H.set i .dead)[i]? = some .dead:=by simp [hlt]
 let h' : Nat -> Option Obj:=fun b=>if blkOf β H i = some b then w.heap[b]? else h b
 have X : Ext h β H h' β (H.set i .dead):=by
  refine ⟨fun b o e=>?_,by simp,fun j y y' e e'=>?_⟩
  ·by_cases hb : blkOf β H i = some b
   ·rw [s.fresh _ _ hb] at e;cases e
   ·simp only [h',if_neg hb];exact e
  ·by_cases hj : j = i
   ·subst hj;rw [hgi] at e';cases e'
    cases y <;> first | rfl | trivial|exact .inl rfl
   ·rw [hg j hj,e] at e';cases e';exact Blk.to_refl _ _ _
 have hbo : ∀ j b,blkOf β (H.set i .dead) j = some b -> j ≠ i /\ blkOf β H j = some b:=by
  intro j b hb
  by_cases hj : j = i
  ·subst hj;simp [blkOf,hgi] at hb
  ·exact ⟨hj,by rw [<- hb];exact (yK rfl (hg j hj)).symm⟩
 refine ⟨h',s.grown X s.env (fun b o e=>?_) (fun j y e=>?_) (fun j k b hj hk'=>s.own _ _ _ (hbo j b hj).2 (hbo k b hk').2) (fun j b hj=>?_) (fun b o e=>⟨(s.frm b o e).1,?_⟩) (fun j b hj=>s.fro _ _ (hbo j b hj).2),X,fun b o hb ho=>by simp only [h',if_pos hb];exact ho⟩
 ·by_cases hb : blkOf β H i = some b
  ·simp only [h',if_pos hb] at e;exact e
  ·simp only [h',if_neg hb] at e;exact s.imm _ _ e
 ·by_cases hj : j = i
  ·subst hj;rw [hgi] at e;cases e;exact .inr trivial
  ·rw [hg j hj] at e
   exact .inl ⟨e,rfl,fun _ _=>rfl⟩
 ·obtain ⟨h1,h2⟩:=hbo j b hj
  simp only [h']
  rw [if_neg (fun hh=>h1 (s.own _ _ _ h2 hh))]
  exact s.fresh _ _ h2
 ·simp only [h']
  rw [if_neg (fun hh=>by rw [s.fro _ _ hh] at e;cases e)]
  exact (s.frm b o e).2
end
end GA
end
section
namespace GA
open Go Go.RowKit
abbrev St:=Nat -> Option AV
def upd (σ : St) (d : Nat) (r : AV) : St:=fun t=>if t = d then some r else σ t
def putO (N : Nat) (σ : St) (d : Option Nat) (r : AV) : St:=match d with | some d=>if d < N then upd σ d r else σ | none=>σ
def bnd {α : Type} (o : Option α) (k : α -> Prop) : Prop:=match o with | some r=>k r | none=>False
theorem zo {α : Type} (a : α) (k : α -> Prop) : bnd (some a) k = k a:=rfl
theorem zd {α : Type} {o : Option α} {k : α -> Prop} (h : bnd o k) : ∃ a,o = some a /\ k a:=by
 cases o with | none=>exact h.elim | some a=>exact ⟨a,rfl,h⟩
def Br (c : Bool) (A B : Prop) : Prop:=(c = true -> A) /\ (c = false -> B)
theorem Br_true (A B : Prop) : Br true A B = A:=by simp [Br]
theorem zdH (A B : Prop) : Br false A B = B:=by simp [Br]
def zcm : Value -> Option AV
 | .bool b=>some (.bool b)
 | .int k n=>some (.int k n)
 | .slice none 0 0=>some (.sl true [])
 | .pointer none=>some .nilp
 | .map none=>some .nilm
 | .nilFunc=>some .nilf
 | _=>none
def toAVL : List Value -> Option (List AV)
 | []=>some []
 | v :: l=>match zcm v,toAVL l with | some a,some r=>some (a :: r) | _,_=>none
def toAV : Value -> Option AV
 | .agg cs=>(toAVL cs.toList).map .agg
 | .tuple vs=>if vs.size = 0 then some (.tup []) else none
 | v=>zcm v
def ev (σ : St) : Operand -> Option AV
 | .tmp t=>σ t
 | .const v=>toAV v
 | .func f=>some (.fn f [])
 | .global _=>none
def evL (σ : St) : List Operand -> Option (List AV)
 | []=>some []
 | x :: l=>match ev σ x,evL σ l with | some a,some r=>some (a :: r) | _,_=>none
section
variable {P : Program} {E : Env} {h : Nat -> Option Obj} {β : Nat -> Value} {H : List Blk} {w : World} {σ : St} {a : Act}
theorem toAV1_one {v : Value} {r : AV} (e : zcm v = some r) : r.one = true:=by
 unfold zcm at e;split at e <;> cases e <;> rfl
theorem zbQ {v : Value} {r : AV} (e : zcm v = some r) : Rep P h β H r v:=by
 unfold zcm at e;split at e <;> cases e
 ·exact .bool _
 ·exact .int _ _
 ·exact .slnil
 ·exact .nilp
 ·exact .nilm
 ·exact .nilf
theorem zab : ∀ {l : List Value} {rs : List AV},toAVL l = some rs -> rs.length = l.length /\ (∀ x ∈ rs,x.one = true) /\ ∀ (j : Nat) x,rs[j]? = some x -> ∃ v,l[j]? = some v /\ Rep P h β H x v
 | [],rs,e=>by cases e;simp
 | v :: l,rs,e=>by
   unfold toAVL at e
   split at e <;> cases e
   rename_i a r h1 h2
   obtain ⟨i1,i2,i3⟩:=zab h2
   refine ⟨by simp [i1],by intro x hx;rcases List.mem_cons.1 hx with rfl | hx;exact toAV1_one h1;exact i2 x hx,fun j x e=>?_⟩
   cases j with
   | zero=>simp at e;subst e;exact ⟨v,by simp,zbQ h1⟩
   | succ j=>simp at e;obtain ⟨u,h3,h4⟩:=i3 j x e;exact ⟨u,by simpa using h3,h4⟩
theorem k5 {v : Value} {r : AV} (e : toAV v = some r) : Rep P h β H r v:=by
 unfold toAV at e;split at e
 ·rename_i cs
  cases h1 : toAVL cs.toList with
  | none=>simp [h1] at e
  | some l =>
    simp [h1] at e;subst e
    obtain ⟨i1,i2,i3⟩:=zab (P:=P) (h:=h) (β:=β) (H:=H) h1
    refine .agg (fun j=>cs[j]?.getD undef) (by simpa using i1.symm) i2 (fun j x e=>?_) (fun j x e=>?_)
    ·obtain ⟨u,h3,_⟩:=i3 j x e;simp at h3;simp [h3]
    ·obtain ⟨u,h3,h4⟩:=i3 j x e;simp at h3;simp [h3,h4]
 ·rename_i vs
  split at e <;> cases e
  rename_i hs
  exact .tup (fun _=>undef) (by simpa using hs) (by simp) (by simp)
 ·exact zbQ e
def Fits (P : Program) (h : Nat -> Option Obj) (β : Nat -> Value) (H : List Blk) (σ : St) (a : Act) : Prop:=
 ∀ t r,σ t = some r -> ∃ v,a.tmps[t]? = some v /\ Rep P h β H r v
theorem Fits.ev (F : Fits P h β H σ a) {x : Operand} {r : AV} (e : ev σ x = some r) : Rep P h β H r (a.eval x):=by
 cases x with
 | tmp t=>obtain ⟨v,h1,h2⟩:=F t r e;simpa [Act.eval,h1] using h2
 | const v=>exact k5 e
 | func f=>cases e;exact .fn (fun _=>undef) rfl (by simp) (by simp)
 | global g=>cases e
theorem Fits.ext {h' : Nat -> Option Obj} {β' : Nat -> Value} {H' : List Blk} (F : Fits P h β H σ a) (X : Ext h β H h' β' H') : Fits P h' β' H' σ a:=
 fun t r e=>let ⟨v,h1,h2⟩:=F t r e;⟨v,h1,X.rep h2⟩
theorem Fits.put {N : Nat} (F : Fits P h β H σ a) (hN : a.tmps.size = N) {d : Option Nat} {r : AV} {v : Value} (hr : Rep P h β H r v) : Fits P h β H (putO N σ d r) (a.put d v):=by
 cases d with
 | none=>exact F
 | some d =>
   by_cases hd : d < N
   ·simp only [putO,hd,if_true,Act.put]
    intro t x e
    unfold upd at e
    by_cases ht : t = d
    ·subst ht;simp at e;subst e;exact ⟨v,by simp [hN,hd],hr⟩
    ·simp [ht] at e
     obtain ⟨u,h1,h2⟩:=F t x e
     exact ⟨u,by rw [Array.getElem?_setIfInBounds_ne (Ne.symm ht)];exact h1,h2⟩
   ·simp only [putO,hd,if_false]
    intro t x e
    obtain ⟨u,h1,h2⟩:=F t x e
    refine ⟨u,?_,h2⟩
    simp only [Act.put]
    rw [Array.setIfInBounds_eq_of_size_le (by omega)];exact h1
theorem vu (a : Act) (d : Option Nat) (v : Value) : (a.put d v).tmps.size = a.tmps.size:=by cases d <;> simp [Act.put]
theorem v9 (a : Act) (d : Option Nat) (v : Value) : (a.put d v).defers = a.defers:=by cases d <;> simp [Act.put]
def RepL (P : Program) (h : Nat -> Option Obj) (β : Nat -> Value) (H : List Blk) (rs : List AV) (vs : List Value) : Prop:=
 vs.length = rs.length /\ ∀ (j : Nat) x,rs[j]? = some x -> ∃ v,vs[j]? = some v /\ Rep P h β H x v
theorem RepL.nil : RepL P h β H [] []:=⟨rfl,by simp⟩
theorem RepL.cons {r : AV} {rs : List AV} {v : Value} {vs : List Value} (a : Rep P h β H r v) (b : RepL P h β H rs vs) : RepL P h β H (r :: rs) (v :: vs):=by
 refine ⟨by simp [b.1],fun j x e=>?_⟩
 cases j with
 | zero=>simp at e;subst e;exact ⟨v,rfl,a⟩
 | succ j=>exact b.2 j x (by simpa using e)
theorem RepL.append {rs rs' : List AV} {vs vs' : List Value} (a : RepL P h β H rs vs) (b : RepL P h β H rs' vs') : RepL P h β H (rs ++ rs') (vs ++ vs'):=by
 refine ⟨by simp [a.1,b.1],fun j x e=>?_⟩
 rcases Nat.lt_or_ge j rs.length with hj | hj
 ·rw [List.getElem?_append_left hj] at e
  obtain ⟨v,h1,h2⟩:=a.2 j x e
  exact ⟨v,by rw [List.getElem?_append_left (by rw [a.1];exact hj)];exact h1,h2⟩
 ·rw [List.getElem?_append_right hj] at e
  obtain ⟨v,h1,h2⟩:=b.2 _ x e
  exact ⟨v,by rw [List.getElem?_append_right (by rw [a.1];exact hj),a.1];exact h1,h2⟩
theorem Fits.evL (F : Fits P h β H σ a) : ∀ {l : List Operand} {rs : List AV},evL σ l = some rs -> RepL P h β H rs (l.map a.eval)
 | [],rs,e=>by cases e;exact .nil
 | x :: l,rs,e=>by
   unfold GA.evL at e
   split at e <;> cases e
   rename_i h1 h2
   exact .cons (F.ev h1) (F.evL h2)
def zl (P : Program) (E : Env) (h : Nat -> Option Obj) (β : Nat -> Value) (H : List Blk) (s : Sem Value) (w : World) (k : AV -> List Blk -> Prop) : Prop:=
 ∃ v w' r H' h' β',s.run P w = .ok v w' /\ k r H' /\ Ext h β H h' β' H' /\ SR P E h' β' H' w' /\ Rep P h' β' H' r v
theorem zl.pure (s : SR P E h β H w) {m : Sem Value} {v : Value} {r : AV} {k : AV -> List Blk -> Prop} (hm : m.run P w = .ok v w) (hr : Rep P h β H r v) (hk : k r H) : zl P E h β H m w k:=
 ⟨v,w,r,H,h,β,hm,hk,Ext.refl _ _ _,s,hr⟩
def iand (q : IntKind) (a b : Int) : Int:=q.wrap (BitVec.ofInt q.bits a &&& BitVec.ofInt q.bits b).toNat
def ior (q : IntKind) (a b : Int) : Int:=q.wrap (BitVec.ofInt q.bits a ||| BitVec.ofInt q.bits b).toNat
def ixor (q : IntKind) (a b : Int) : Int:=q.wrap (BitVec.ofInt q.bits a ^^^ BitVec.ofInt q.bits b).toNat
def iandn (q : IntKind) (a b : Int) : Int:=q.wrap (BitVec.ofInt q.bits a &&& ~~~ (BitVec.ofInt q.bits b)).toNat
def qV (P : Program) (t : TypeId) : Prop:=P.underlying t = some .bool
def gY (P : Program) (t : TypeId) : Prop:=∃ e,P.underlying t = some (.slice e)
def opBin (P : Program) (t : TypeId) (op : BinOp) (x y : AV) (k : AV -> Prop) : Prop:=
 match op,x,y with
 | .add,.int q a,.int q' b=>q = q' /\ k (.int q (q.wrap (a + b)))
 | .sub,.int q a,.int q' b=>q = q' /\ k (.int q (q.wrap (a - b)))
 | .mul,.int q a,.int q' b=>q = q' /\ k (.int q (q.wrap (a * b)))
 | .quo,.int q a,.int q' b=>q = q' /\ b ≠ 0 /\ k (.int q (q.wrap (a.tdiv b)))
 | .rem,.int q a,.int q' b=>q = q' /\ b ≠ 0 /\ k (.int q (a.tmod b))
 | .and,.int q a,.int q' b=>q = q' /\ k (.int q (iand q a b))
 | .or,.int q a,.int q' b=>q = q' /\ k (.int q (ior q a b))
 | .xor,.int q a,.int q' b=>q = q' /\ k (.int q (ixor q a b))
 | .andNot,.int q a,.int q' b=>q = q' /\ k (.int q (iandn q a b))
 | .shl,.int q a,.int _ b=>0 <= b /\ k (.int q (q.wrap (a * 2 ^ (min b.toNat q.bits))))
 | .shr,.int q a,.int _ b=>0 <= b /\ k (.int q (a.fdiv (2 ^ (min b.toNat q.bits))))
 | .eql,.int q a,.int q' b=>q = q' /\ k (.bool (a == b))
 | .neq,.int q a,.int q' b=>q = q' /\ k (.bool (a != b))
 | .lss,.int q a,.int q' b=>q = q' /\ k (.bool (decide (a < b)))
 | .leq,.int q a,.int q' b=>q = q' /\ k (.bool (decide (a <= b)))
 | .gtr,.int q a,.int q' b=>q = q' /\ k (.bool (decide (b < a)))
 | .geq,.int q a,.int q' b=>q = q' /\ k (.bool (decide (b <= a)))
 | .eql,.bool a,.bool b=>qV P t /\ k (.bool (a == b))
 | .neq,.bool a,.bool b=>qV P t /\ k (.bool (a != b))
 | .eql,.sl nl _,.sl true []=>gY P t /\ k (.bool nl)
 | .neq,.sl nl _,.sl true []=>gY P t /\ k (.bool (!nl))
 | _,_,_=>False
theorem z9 {q : IntKind} {n : Int} {v : Value} (r : Rep P h β H (.int q n) v) : v = .int q n:=by cases r;rfl
theorem k6 {b : Bool} {v : Value} (r : Rep P h β H (.bool b) v) : v = .bool b:=by cases r;rfl
theorem rep_sl {nl : Bool} {els : List AV} {v : Value} (r : Rep P h β H (.sl nl els) v) : (nl = true /\ els = [] /\ v = .slice none 0 0) \/ (nl = false /\ ∃ a cap,v = .slice (some a) els.length cap):=by
 cases r with
 | slnil=>exact .inl ⟨rfl,rfl,rfl⟩
 | slemp=>exact .inr ⟨rfl,_,_,rfl⟩
 | sl us hn=>subst hn;exact .inr ⟨rfl,_,_,rfl⟩
theorem zR {op : BinOp} {t : TypeId} {x y : Operand} {a b : Value} (hn : a ≠ .nilIface) (ha : ∀ cs,a ≠ .agg cs) : (eqGuard op t x y a b).run P w = .ok () w:=by
 cases op <;> cases a <;> first | rfl|exact absurd rfl hn|exact absurd rfl (ha _)
theorem vr (d : Nat) (t e : TypeId) (o : Option Addr) (n c : Nat) (h1 : P.underlying t = some (.slice e)) : (Op.equalIn (d + 1) t (.slice o n c) (.slice none 0 0)).run P w = .ok o.isNone w:=by
 cases o <;> simp [Op.equalIn,run_underlying h1]
theorem zbk (t e : TypeId) (o : Option Addr) (n c : Nat) (h1 : P.underlying t = some (.slice e)) : (binOp .eql t (.slice o n c) (.slice none 0 0)).run P w = .ok (.bool o.isNone) w:=by
 show (do pure (Value.bool (<- Op.equalIn (9999 + 1) t (.slice o n c) (.slice none 0 0))) : Sem Value).run P w = _
 rw [Sem.run_bind,vr 9999 t e o n c h1];rfl
theorem za5 (t e : TypeId) (o : Option Addr) (n c : Nat) (h1 : P.underlying t = some (.slice e)) : (binOp .neq t (.slice o n c) (.slice none 0 0)).run P w = .ok (.bool !o.isNone) w:=by
 show (do pure (Value.bool !(<- Op.equalIn (9999 + 1) t (.slice o n c) (.slice none 0 0))) : Sem Value).run P w = _
 rw [Sem.run_bind,vr 9999 t e o n c h1];rfl
theorem zep (s : SR P E h β H w) {t : TypeId} {op : BinOp} {x y : AV} {u v : Value} (hx : Rep P h β H x u) (hy : Rep P h β H y v) {k : AV -> Prop} (hk : opBin P t op x y k) (ox oy : Operand) :
  zl P E h β H (do eqGuard op t ox oy u v;binOp op t u v) w (fun r H'=>H' = H /\ k r):=by
 have hg : ∀ {q n},u = .int q n -> (eqGuard op t ox oy u v).run P w = .ok () w:=fun e=>zR (by rw [e];simp) (by rw [e];simp)
 unfold opBin at hk
 split at hk
 case h_18 =>
  cases k6 hx;cases k6 hy
  obtain ⟨h1,h2⟩:=hk
  refine zl.pure s (r:=.bool _) ?_ (.bool _) ⟨rfl,h2⟩
  rw [Sem.run_bind,zR (by simp) (by simp)]
  exact run_eql_bool w t _ _ h1
 case h_19 =>
  cases k6 hx;cases k6 hy
  obtain ⟨h1,h2⟩:=hk
  refine zl.pure s (r:=.bool _) ?_ (.bool _) ⟨rfl,h2⟩
  rw [Sem.run_bind,zR (by simp) (by simp)]
  exact run_neq_bool w t _ _ h1
 case h_20 =>
  obtain ⟨⟨e,h1⟩,h2⟩:=hk
  cases hy
  rcases rep_sl hx with ⟨rfl,rfl,rfl⟩ | ⟨rfl,a,cap,rfl⟩
  ·refine zl.pure s (r:=.bool true) ?_ (.bool _) ⟨rfl,h2⟩
   rw [Sem.run_bind,zR (by simp) (by simp)]
   exact zbk t e _ _ _ h1
  ·refine zl.pure s (r:=.bool false) ?_ (.bool _) ⟨rfl,h2⟩
   rw [Sem.run_bind,zR (by simp) (by simp)]
   exact zbk t e _ _ _ h1
 case h_21 =>
  obtain ⟨⟨e,h1⟩,h2⟩:=hk
  cases hy
  rcases rep_sl hx with ⟨rfl,rfl,rfl⟩ | ⟨rfl,a,cap,rfl⟩
  ·refine zl.pure s (r:=.bool false) ?_ (.bool _) ⟨rfl,h2⟩
   rw [Sem.run_bind,zR (by simp) (by simp)]
   exact za5 t e _ _ _ h1
  ·refine zl.pure s (r:=.bool true) ?_ (.bool _) ⟨rfl,h2⟩
   rw [Sem.run_bind,zR (by simp) (by simp)]
   exact za5 t e _ _ _ h1
 case h_22=>exact hk.elim
 all_goals
  cases z9 hx;cases z9 hy
  first
   | (obtain ⟨rfl,h0,h2⟩:=hk
      refine zl.pure s (r:=.int _ _) ?_ (.int _ _) ⟨rfl,h2⟩
      rw [Sem.run_bind,hg rfl]
      simp [binOp,Op.intDiv,h0];done)
   | (obtain ⟨rfl,h2⟩:=hk
      refine zl.pure s (r:=.int _ _) ?_ (.int _ _) ⟨rfl,h2⟩
      rw [Sem.run_bind,hg rfl]
      simp [binOp,Op.intArith,Op.intBits,iand,ior,ixor,iandn];done)
   | (obtain ⟨rfl,h2⟩:=hk
      refine zl.pure s (r:=.bool _) ?_ (.bool _) ⟨rfl,h2⟩
      rw [Sem.run_bind,hg rfl]
      simp [binOp,Op.intCmp];done)
   | (obtain ⟨h0,h2⟩:=hk
      refine zl.pure s (r:=.int _ _) ?_ (.int _ _) ⟨rfl,h2⟩
      rw [Sem.run_bind,hg rfl]
      simp [binOp,Op.shift,Int.not_lt.2 h0];done)
end
end GA
end
section
namespace GA
open Go Go.RowKit
def j8 : TypeDesc -> Bool
 | .struct _ | .array _ _=>true
 | _=>false
def tyK (P : Program) (t : TypeId) : Option (Bool × Nat):=
 match P.info? t,P.underlying t with
 | some i,some d=>some (j8 d,i.size)
 | _,_=>none
def atP (H : List Blk) : AV -> Option (List AV)
 | .pim cs=>some cs
 | .ptr i o=>match H[i]? with | some (.cells cs)=>some (cs.drop o) | _=>none
 | .gp i n e o=>match H[i]? with | some (.grow _ _ els)=>if n = els.length /\ e < n then some ((els.getD e default).cells.drop o) else none | _=>none
 | _=>none
def y0 (P : Program) (t : TypeId) (H : List Blk) (p : AV) (k : AV -> Prop) : Prop:=
 bnd (tyK P t) fun ti=>bnd (atP H p) fun cs=>if ti.1 = true then ti.2 <= cs.length /\ k (.agg (cs.take ti.2)) else bnd cs.head? k
def splice (c : List AV) (o : Nat) (cs : List AV) : List AV:=c.take o ++ cs ++ c.drop (o + cs.length)
def zbC (P : Program) (H : List Blk) (p v : AV) : Option (List Blk):=
 match p with
 | .ptr i o=>match H[i]? with | some (.cells c)=>if o + v.cells.length <= c.length then some (H.set i (.cells (splice c o v.cells))) else none | _=>none
 | .gp i n e o=>match H[i]? with
   | some (.grow t nl els)=>if n = els.length /\ e < n then
     if o = 0 /\ v.cells.length = sz P t then some (H.set i (.grow t nl (els.set e v)))
     else if o + v.cells.length <= sz P t /\ (els.getD e default).one = false then some (H.set i (.grow t nl (els.set e (.agg (splice (els.getD e default).cells o v.cells))))) else none
     else none
   | _=>none
 | _=>none
def AV.isTup : AV -> Bool
 | .tup _=>true
 | _=>false
def fL (P : Program) (t : TypeId) (H : List Blk) (p v : AV) (k : AV -> List Blk -> Prop) : Prop:=
 bnd (tyK P t) fun ti=>(v.cells.length = ti.2 /\ v.isTup = false) /\ bnd (zbC P H p v) fun H'=>k (.tup []) H'
def opBoxI (v : AV) (H : List Blk) (k : AV -> List Blk -> Prop) : Prop:=v.isTup = false /\ k (.pim v.cells) H
def zak (v : AV) (H : List Blk) (k : AV -> List Blk -> Prop) : Prop:=v.isTup = false /\ (k (.ptr H.length 0) (H ++ [.cells v.cells]) \/ ∃ i,H[i]? = some .free /\ k (.ptr i 0) (H.set i (.cells v.cells)))
def z6 (P : Program) (t : TypeId) : Option AV:=((P.info? t).bind (·.zero)).bind toAV
section
variable {P : Program} {E : Env} {h : Nat -> Option Obj} {β : Nat -> Value} {H : List Blk} {w : World}
theorem wb {t : TypeId} {ti : Bool × Nat} (e : tyK P t = some ti) : ∃ i d,P.info? t = some i /\ P.underlying t = some d /\ ti = (j8 d,i.size):=by
 unfold tyK at e;split at e <;> cases e;rename_i i d h1 h2;exact ⟨i,d,h1,h2,rfl⟩
structure AtOk (P : Program) (h : Nat -> Option Obj) (β : Nat -> Value) (H : List Blk) (w : World) (v : Value) (cs : List AV) (b off : Nat) : Prop where
 eq : v = .pointer (some ⟨b,off,none⟩)
 one : ∀ x ∈ cs,x.one = true
 cell : ∃ us : Nat -> Value,(∀ (j : Nat) x,cs[j]? = some x -> w.cell? ⟨b,off + j,none⟩ = some (us j)) /\ ∀ (j : Nat) x,cs[j]? = some x -> Rep P h β H x (us j)
theorem vp {w : World} {b o : Nat} {c : Array Value} {t : TypeId} {fz : Nat × Nat} (hb : w.heap[b]? = some (.cells c t fz)) : w.cell? ⟨b,o,none⟩ = c[o]?:=by simp [World.cell?,hb]
theorem wM {e : AV} {els : List AV} (he : e ∈ els) (h1 : ∀ x ∈ flat els,x.one = true) : ∀ x ∈ e.cells,x.one = true:=
 fun x hx=>h1 x (List.mem_flatMap.2 ⟨e,he,hx⟩)
theorem vf {w : Nat} : ∀ {els : List AV},(∀ e ∈ els,e.cells.length = w) -> ∀ (i j : Nat) e x,els[i]? = some e -> e.cells[j]? = some x -> (flat els)[i * w + j]? = some x
 | [],_,i,j,e,x,h1,_=>by simp at h1
 | a :: l,hw,i,j,e,x,h1,h2=>by
   have ha : a.cells.length = w:=hw a (by simp)
   simp only [flat,List.flatMap_cons]
   cases i with
   | zero =>
     simp at h1;subst h1
     rw [List.getElem?_append_left (by have:=(List.getElem?_eq_some_iff.1 h2).1;omega)];simpa using h2
   | succ i =>
     have hs : (i + 1) * w = i * w + w:=Nat.succ_mul i w
     rw [List.getElem?_append_right (by omega)]
     have:=vf (w:=w) (els:=l) (fun e he=>hw e (by simp [he])) i j e x (by simpa using h1) h2
     rw [ha,show (i + 1) * w + j - w = i * w + j by omega]
     exact this
theorem atP_ok (s : SR P E h β H w) {p : AV} {v : Value} {cs : List AV} (hp : Rep P h β H p v) (e : atP H p = some cs) : ∃ b off,AtOk P h β H w v cs b off:=by
 cases hp with
 | @pim b off c t fz cs' us hone hb hc hr =>
   cases e
   exact ⟨b,off,rfl,hone,us,fun j x ex=>by rw [vp (s.imm _ _ hb)];exact hc j x ex,hr⟩
 | @ptr i o b hi hb =>
   simp only [atP] at e
   split at e <;> cases e
   rename_i cs0 h1
   obtain ⟨b',c,t,h2,h3,h4,h5,us,h6,h7⟩:=s.blk i _ h1
   have h8:=hb cs0 h1
   rw [h2] at h8;cases h8
   refine ⟨b,o,rfl,fun x hx=>h5 x (List.mem_of_mem_drop hx),fun j=>us (o + j),fun j x ex=>?_,fun j x ex=>?_⟩
   ·rw [List.getElem?_drop] at ex
    rw [vp h3];exact h6 _ _ ex
   ·rw [List.getElem?_drop] at ex
    exact h7 _ _ ex
 | @gp i n e' o b q hi hv =>
   simp only [atP] at e
   split at e
   ·rename_i t nl els h1
    split at e <;> cases e
    rename_i h2
    obtain ⟨h3,h4⟩:=hv _ _ _ h1
    obtain ⟨h6,len,cap,h5⟩:=h4 h2.1.symm
    subst h6
    rcases s.blk i _ h1 with ⟨_,_,h7⟩ | ⟨_,_,a,h7⟩ | ⟨_,b',cap',c,h7,h8,h9,h10,h11,h12,h13,h14,h15,us,h16,h17⟩
    ·rw [h7] at h5;cases h5
    ·have : els = []:=by assumption
     subst this;simp at h2;omega
    ·rw [h7] at h5;cases h5
     have hlt : e' < els.length:=by omega
     have hmem : els.getD e' default ∈ els:=by rw [List.getD_eq_getElem?_getD,List.getElem?_eq_getElem hlt];simp
     have hget : els[e']? = some (els.getD e' default):=by rw [List.getD_eq_getElem?_getD,List.getElem?_eq_getElem hlt];simp
     have hf:=fun j x (ex : ((els.getD e' default).cells.drop o)[j]? = some x) =>
      vf h14 e' (o + j) _ x hget (by rw [List.getElem?_drop] at ex;exact ex)
     refine ⟨b,e' * sz P t + o,rfl,fun x hx=>wM hmem h15 x (List.mem_of_mem_drop hx),fun j=>us (e' * sz P t + (o + j)),fun j x ex=>?_,fun j x ex=>?_⟩
     ·rw [vp h9,Nat.add_assoc];exact h16 _ _ (hf j x ex)
     ·exact h17 _ _ (hf j x ex)
   ·cases e
 | _=>cases e
theorem kA (b o j : Nat) : (⟨b,o,none⟩ : Addr).add j = ⟨b,o + j,none⟩:=by unfold Addr.add;split <;> simp_all
theorem fy (s : SR P E h β H w) {t : TypeId} {p : AV} {v : Value} (hp : Rep P h β H p v) {k : AV -> Prop} (hk : y0 P t H p k) :
  ∃ ad u r,v = .pointer (some ad) /\ (loadVar t ad).run P w = .ok u w /\ Rep P h β H r u /\ k r:=by
 obtain ⟨ti,h1,hk⟩:=zd hk
 obtain ⟨cs,h2,hk⟩:=zd hk
 obtain ⟨i,d,h3,h4,rfl⟩:=wb h1
 obtain ⟨b,off,A⟩:=atP_ok s hp h2
 obtain ⟨us,hu1,hu2⟩:=A.cell
 refine ⟨⟨b,off,none⟩,?_⟩
 by_cases hd : j8 d = true
 ·simp only [hd,if_true] at hk
  obtain ⟨hl,hk⟩:=hk
  have hlen : ((List.range i.size).map us).length = i.size:=by simp
  have hcells : ∀ (j : Nat) u,((List.range i.size).map us)[j]? = some u -> w.cell? ((⟨b,off,none⟩ : Addr).add j) = some u:=by
   intro j u hj
   rw [kA]
   have hjl : j < i.size:=by have:=(List.getElem?_eq_some_iff.1 hj).1;simpa using this
   simp [hjl] at hj
   subst hj
   exact hu1 j (cs[j]'(by omega)) (List.getElem?_eq_getElem (by omega))
  have hl2:=run_loadCells_list (P:=P) w ⟨b,off,none⟩ _ hcells
  rw [hlen] at hl2
  refine ⟨.agg ((List.range i.size).map us).toArray,.agg (cs.take i.size),A.eq,?_,?_,hk⟩
  ·have hag : (isAgg t).run P w = .ok true w:=by
    unfold isAgg;rw [Sem.run_bind,run_underlying h4];cases d <;> first | rfl | simp [j8] at hd
   simp [loadVar,hag,Go.sizeOf,typeInfo,h3,hl2]
  ·refine .agg us (by simp;omega) (fun x hx=>A.one x (List.mem_of_mem_take hx)) (fun j x ex=>?_) (fun j x ex=>?_)
   ·have hjl : j < i.size:=by have:=(List.getElem?_eq_some_iff.1 ex).1;simp at this;omega
    simp [hjl]
   ·rw [List.getElem?_take] at ex
    split at ex
    ·exact hu2 j x ex
    ·cases ex
 ·simp only [hd,if_false,Bool.false_eq_true] at hk
  obtain ⟨x,h5,hk⟩:=zd hk
  have hx0 : cs[0]? = some x:=by rw [<- List.head?_eq_getElem?];exact h5
  have h6:=hu1 0 x hx0
  refine ⟨us 0,x,A.eq,?_,hu2 0 x hx0,hk⟩
  have hag : (isAgg t).run P w = .ok false w:=by
   unfold isAgg;rw [Sem.run_bind,run_underlying h4];cases d <;> first | rfl|(simp [j8] at hd)
  simp [loadVar,hag,show w.cell? ⟨b,off,none⟩ = some (us 0) from h6]
theorem zdc (s : SR P E h β H w) {t : TypeId} {p : AV} {v : Value} (hp : Rep P h β H p v) {k : AV -> Prop} (hk : y0 P t H p k) :
  zl P E h β H (Instr.loadAt t v) w (fun r H'=>H' = H /\ k r):=by
 obtain ⟨ad,u,r,rfl,h1,h2,h3⟩:=fy s hp hk
 refine zl.pure s (v:=u) (r:=r) ?_ h2 ⟨rfl,h3⟩
 simp [Instr.loadAt,Instr.sureAddr,h1]
theorem yT (_ : SR P E h β H w) {r : AV} {v : Value} (hr : Rep P h β H r v) (ht : r.isTup = false) : v.cells.size = r.cells.length /\ (∀ x ∈ r.cells,x.one = true) /\ (∀ u ∈ v.cells.toList,u.oneCell' = true) /\
  ∃ us : Nat -> Value,(∀ (j : Nat) x,r.cells[j]? = some x -> v.cells[j]? = some (us j)) /\ ∀ (j : Nat) x,r.cells[j]? = some x -> Rep P h β H x (us j):=by
 by_cases h1 : r.one = true
 ·have hv:=hr.one h1
  have hc : r.cells = [r]:=by cases r <;> first | rfl | simp [AV.one] at h1
  have hvc : v.cells = #[v]:=by cases v <;> first | rfl | simp [Value.oneCell'] at hv
  rw [hc,hvc]
  refine ⟨rfl,by simpa using h1,by simpa using hv,fun _=>v,fun j x e=>?_,fun j x e=>?_⟩
  ·cases j <;> simp at e;simp
  ·cases j <;> simp at e;subst e;exact hr
 ·cases hr with
  | agg us hs hone hc hr' =>
    refine ⟨hs,hone,fun u hu=>?_,us,hc,hr'⟩
    obtain ⟨j,hj,he⟩:=List.getElem_of_mem hu
    rename_i cs vs
    have hj' : j < vs.size:=by simpa [Value.cells] using hj
    have hx : cs[j]? = some (cs[j]'(by omega)):=List.getElem?_eq_getElem (by omega)
    have h2:=hc j _ hx
    have h3 : us j = u:=by
     rw [Array.getElem?_eq_getElem hj'] at h2
     simp only [Option.some.injEq] at h2
     rw [<- h2,<- he];simp [Value.cells]
    rw [<- h3]
    exact (hr' j _ hx).one (hone _ (List.getElem_mem _))
  | tup=>simp [AV.isTup] at ht
  | _=>simp [AV.one] at h1
theorem wS (t : TypeId) (v : Value) : (newVar t v).run P w = .ok ⟨w.heap.size,0,none⟩ (w.alloc (.cells v.cells t)):=by
 simp [newVar,newRow]
theorem zeI (s : SR P E h β H w) {t : TypeId} {r : AV} {v : Value} (hr : Rep P h β H r v) {k : AV -> List Blk -> Prop} (hk : opBoxI r H k) : zl P E h β H (Instr.box t v) w k:=by
 obtain ⟨ht,hk⟩:=hk
 obtain ⟨h1,h2,h3,us,h4,h5⟩:=yT s hr ht
 obtain ⟨s',X⟩:=s.alloc_imm (.cells v.cells t)
 refine ⟨_,_,_,H,_,β,?_,hk,X,s',.pim (b:=w.heap.size) (off:=0) (c:=v.cells) (t:=t) (fz:=(0,0)) us h2 (by simp) (fun j x e=>by rw [Nat.zero_add];exact h4 j x e) (fun j x e=>X.rep (h5 j x e))⟩
 simp [Instr.box,wS]
theorem fY (s : SR P E h β H w) {t : TypeId} {r : AV} {v : Value} (hr : Rep P h β H r v) {k : AV -> List Blk -> Prop} (hk : zak r H k) : zl P E h β H (Instr.box t v) w k:=by
 obtain ⟨ht,hk⟩:=hk
 obtain ⟨h1,h2,h3,us,h4,h5⟩:=yT s hr ht
 rcases hk with hk | ⟨i,hi,hk⟩
 ·obtain ⟨s',X⟩:=s.push (w':=w.alloc (.cells v.cells t)) s.env (fun k hk=>Below.heap_alloc _ _ _ hk) (.pointer (some ⟨w.heap.size,0,none⟩)) (.cells r.cells) (by simp [anchor])
   (fun X=>⟨w.heap.size,v.cells,t,by simp [upb],heap_alloc_new w _,h1,h2,us,h4,fun j x e=>X.rep (h5 j x e)⟩)
  refine ⟨_,_,_,_,h,_,?_,hk,X,s',.ptr (b:=w.heap.size) (.push rfl) (fun _ _=>by simp [upb])⟩
  simp [Instr.box,wS]
 ·have hlt:=(List.getElem?_eq_some_iff.1 hi).1
  obtain ⟨s',X⟩:=s.modify (β':=upb β i (.pointer (some ⟨w.heap.size,0,none⟩))) (w':=w.alloc (.cells v.cells t)) (x':=.cells r.cells) hi (fun j hj=>by simp [upb,hj]) trivial s.env
   (fun k hk _=>Below.heap_alloc _ _ _ hk) (fun b hb=>by simp [upb,anchor] at hb;subst hb;exact .inr (Nat.le_refl _))
   (fun X=>⟨w.heap.size,v.cells,t,by simp [upb],heap_alloc_new w _,h1,h2,us,h4,fun j x e=>X.rep (h5 j x e)⟩)
  refine ⟨_,_,_,_,h,_,?_,hk,X,s',.ptr (b:=w.heap.size) (.set hlt rfl) (fun _ _=>by simp [upb])⟩
  simp [Instr.box,wS]
theorem zdl (t : TypeId) {z : Value} (hz : (P.info? t).bind (·.zero) = some z) : (Instr.alloc t true (.tuple #[])).run P w = (Instr.box t z).run P w:=by
 cases hi : P.info? t with
 | none=>simp [hi] at hz
 | some i =>
   simp [hi] at hz
   simp [Instr.alloc,Instr.box,zeroValue,typeInfo,hi,hz,wS]
theorem zdM (s : SR P E h β H w) {t : TypeId} {k : AV -> List Blk -> Prop} {z : AV} (hz : z6 P t = some z) (hk : zak z H k) : zl P E h β H (Instr.alloc t true (.tuple #[])) w k:=by
 unfold z6 at hz
 cases h1 : (P.info? t).bind (·.zero) with
 | none=>simp [h1] at hz
 | some zv =>
   simp [h1] at hz
   obtain ⟨v,w',r,H',h',β',e,rest⟩:=fY s (t:=t) (k5 (P:=P) (h:=h) (β:=β) (H:=H) hz) hk
   exact ⟨v,w',r,H',h',β',by rw [zdl t h1];exact e,rest⟩
end
end GA
end
section
namespace GA
open Go Go.RowKit
theorem y8 {c cs : List AV} {o : Nat} (hl : o + cs.length <= c.length) (j : Nat) : (splice c o cs)[j]? = if j < o then c[j]? else if j < o + cs.length then cs[j - o]? else c[j]?:=by
 unfold splice
 by_cases h1 : j < o
 ·rw [if_pos h1,List.append_assoc,List.getElem?_append_left (by simp;omega),List.getElem?_take,if_pos h1]
 ·rw [if_neg h1]
  by_cases h2 : j < o + cs.length
  ·rw [if_pos h2,List.append_assoc,List.getElem?_append_right (by simp;omega)]
   rw [List.getElem?_append_left (by simp;omega)]
   congr 1;simp;omega
  ·rw [if_neg h2,List.getElem?_append_right (by simp;omega),List.getElem?_drop]
   congr 1;simp;omega
theorem yb {c cs : List AV} {o : Nat} (hl : o + cs.length <= c.length) : (splice c o cs).length = c.length:=by
 unfold splice;simp;omega
theorem zK {w : Nat} : ∀ {els : List AV},(∀ e ∈ els,e.cells.length = w) -> (flat els).length = els.length * w
 | [],_=>by simp [flat]
 | a :: l,hw=>by
   have:=zK (els:=l) (fun e he=>hw e (by simp [he]))
   simp only [flat,List.flatMap_cons,List.length_append,List.length_cons] at this ⊢
   rw [hw a (by simp),this,Nat.succ_mul];omega
theorem zaU {w : Nat} : ∀ {els : List AV},(∀ e ∈ els,e.cells.length = w) -> ∀ (i : Nat) x,i < els.length -> x.cells.length = w -> flat (els.set i x) = splice (flat els) (i * w) x.cells
 | [],_,i,x,h1,_=>by simp at h1
 | a :: l,hw,i,x,h1,h2=>by
   have ha : a.cells.length = w:=hw a (by simp)
   cases i with
   | zero=>simp only [List.set_cons_zero,flat,List.flatMap_cons,splice,Nat.zero_mul,List.take_zero,List.nil_append,h2,Nat.zero_add]
           rw [List.drop_append_of_le_length (by omega),List.drop_of_length_le (l:=a.cells) (by omega),List.nil_append]
   | succ i =>
     have ih:=zaU (w:=w) (els:=l) (fun e he=>hw e (by simp [he])) i x (by simpa using h1) h2
     simp only [List.set_cons_succ,flat,List.flatMap_cons] at ih ⊢
     rw [ih]
     simp only [splice,h2]
     have hs : (i + 1) * w = w + i * w:=by rw [Nat.succ_mul];omega
     rw [hs,List.take_append,List.take_of_length_le (l:=a.cells) (by omega),ha,show w + i * w - w = i * w by omega,
      List.drop_append,List.drop_of_length_le (l:=a.cells) (by omega),ha,show w + i * w + w - w = i * w + w by omega]
     simp
theorem zbs {c cs d : List AV} {o p : Nat} (hl : p + d.length <= c.length) (hd : ∀ j,j < d.length -> d[j]? = c[p + j]?) (ho : o + cs.length <= d.length) :
  splice c p (splice d o cs) = splice c (p + o) cs:=by
 apply List.ext_getElem?
 intro j
 have h1 : (splice d o cs).length = d.length:=yb ho
 have q1:=y8 (c:=c) (cs:=splice d o cs) (o:=p) (by omega) j
 have q2:=y8 (c:=c) (cs:=cs) (o:=p + o) (by omega) j
 rw [q1,q2,h1]
 by_cases a1 : j < p
 ·rw [if_pos a1,if_pos (by omega)]
 ·rw [if_neg a1]
  by_cases a2 : j < p + d.length
  ·rw [if_pos a2,y8 ho (j - p)]
   by_cases a3 : j - p < o
   ·have a5 : j < p + o:=by omega
    simp only [a3,a5,if_true];rw [hd _ (by omega)];congr 1;omega
   ·have a5 : ¬ j < p + o:=by omega
    by_cases a4 : j - p < o + cs.length
    ·have a6 : j < p + o + cs.length:=by omega
     simp only [a3,a5,a4,a6,if_true,if_false];congr 1;omega
    ·have a6 : ¬ j < p + o + cs.length:=by omega
     simp only [a3,a5,a4,a6,if_false];rw [hd _ (by omega)];congr 1;omega
  ·rw [if_neg a2,if_neg (by omega),if_neg (by omega)]
section
variable {P : Program} {E : Env} {h : Nat -> Option Obj} {β : Nat -> Value} {H : List Blk} {w : World}
theorem zP.splice {c cs : List AV} {o : Nat} {cur : Array Value} {vs : List Value} (hc : zP P h β H c cur) (hs : c.length <= cur.size) (hl : o + cs.length <= c.length) (hvl : vs.length = cs.length)
  (us : Nat -> Value) (h1 : ∀ (j : Nat) x,cs[j]? = some x -> vs[j]? = some (us j)) (h2 : ∀ (j : Nat) x,cs[j]? = some x -> Rep P h β H x (us j)) :
  zP P h β H (GA.splice c o cs) (cur.toList.take o ++ vs ++ cur.toList.drop (o + vs.length)).toArray:=by
 obtain ⟨vs0,a1,a2⟩:=hc
 have hget : ∀ j,j < c.length -> (cur.toList.take o ++ vs ++ cur.toList.drop (o + vs.length)).toArray[j]? = if j < o then cur[j]? else if j < o + cs.length then vs[j - o]? else cur[j]?:=by
  intro j hj
  simp only [List.getElem?_toArray]
  by_cases b1 : j < o
  ·rw [if_pos b1,List.append_assoc,List.getElem?_append_left (by simp;omega),List.getElem?_take,if_pos b1];simp
  ·rw [if_neg b1]
   by_cases b2 : j < o + cs.length
   ·rw [if_pos b2,List.append_assoc,List.getElem?_append_right (by simp;omega),List.getElem?_append_left (by simp;omega)]
    congr 1;simp;omega
   ·rw [if_neg b2,List.getElem?_append_right (by simp;omega),List.getElem?_drop,hvl,Array.getElem?_toList]
    congr 1;simp;omega
 refine ⟨fun j=>if j < o then vs0 j else if j < o + cs.length then us (j - o) else vs0 j,fun j x e=>?_,fun j x e=>?_⟩
 ·have hj : j < c.length:=by have:=(List.getElem?_eq_some_iff.1 e).1;rwa [yb hl] at this
  rw [hget j hj]
  rw [y8 hl] at e
  by_cases b1 : j < o
  ·simp only [b1,if_true] at e ⊢;exact a1 j x e
  ·simp only [b1,if_false] at e ⊢
   by_cases b2 : j < o + cs.length
   ·simp only [b2,if_true] at e ⊢;exact h1 _ x e
   ·simp only [b2,if_false] at e ⊢;exact a1 j x e
 ·rw [y8 hl] at e
  by_cases b1 : j < o
  ·simp only [b1,if_true] at e ⊢;exact a2 j x e
  ·simp only [b1,if_false] at e ⊢
   by_cases b2 : j < o + cs.length
   ·simp only [b2,if_true] at e ⊢;exact h2 _ x e
   ·simp only [b2,if_false] at e ⊢;exact a2 j x e
def zdj (P : Program) (E : Env) (h : Nat -> Option Obj) (β : Nat -> Value) (H : List Blk) (s : Sem Unit) (w : World) (k : AV -> List Blk -> Prop) : Prop:=
 ∃ w' H' h' β',s.run P w = .ok () w' /\ k (.tup []) H' /\ Ext h β H h' β' H' /\ SR P E h' β' H' w'
theorem jD (w : World) (b : Nat) (c : Array Value) : World.env (w.setRow b c) = World.env w:=rfl
theorem kL {c cs : List AV} {o : Nat} {x : AV} (hx : x ∈ splice c o cs) : x ∈ c \/ x ∈ cs:=by
 unfold splice at hx
 rcases List.mem_append.1 hx with h1 | h1
 ·rcases List.mem_append.1 h1 with h1 | h1
  ·exact .inl (List.mem_of_mem_take h1)
  ·exact .inr h1
 ·exact .inl (List.mem_of_mem_drop h1)
theorem zbo (s : SR P E h β H w) {t : TypeId} {p r : AV} {pv v : Value} (hp : Rep P h β H p pv) (hr : Rep P h β H r v) {k : AV -> List Blk -> Prop} (hk : fL P t H p r k) :
  zdj P E h β H (Instr.storeAt t pv v) w k:=by
 obtain ⟨ti,h1,⟨hlen,htup⟩,hk⟩:=zd hk
 obtain ⟨H',h2,hk'⟩:=zd hk
 clear hk
 obtain ⟨i,d,h3,h4,rfl⟩:=wb h1
 obtain ⟨g1,g2,g3,us,g4,g5⟩:=yT s hr htup
 have hsz : v.cells.size = i.size:=by rw [g1];exact hlen
 have run : ∀ (b o : Nat) (c : Array Value) (tt : TypeId),w.heap[b]? = some (.cells c tt (0,0)) -> o + r.cells.length <= c.size ->
   (Instr.storeAt t (.pointer (some ⟨b,o,none⟩)) v).run P w = .ok () (w.setRow b (c.toList.take o ++ v.cells.toList ++ c.toList.drop (o + v.cells.toList.length)).toArray):=by
  intro b o c tt hb hle
  have:=run_storeCells_at P b o tt v.cells.toList 0 c w hb (by simp;omega) g3
  simp only [Nat.add_zero] at this
  simp [Instr.storeAt,Instr.sureAddr,storeVar,Go.sizeOf,typeInfo,h3,hsz,this]
 cases hp with
 | @ptr ii o b hi hb =>
   simp only [zbC] at h2
   split at h2
   ·rename_i cs e1
    split at h2 <;> cases h2
    rename_i hle
    obtain ⟨b',c,tt,e2,e3,e4,e5,e6⟩:=s.blk ii _ e1
    have e7:=hb cs e1
    rw [e2] at e7;cases e7
    have hbo : blkOf β H ii = some b:=by simp [blkOf,e1,e2,anchor]
    obtain ⟨s',X⟩:=s.modify (β':=β) (w':=w.setRow b (c.toList.take o ++ v.cells.toList ++ c.toList.drop (o + v.cells.toList.length)).toArray) (x':=.cells (splice cs o r.cells)) e1 (fun _ _=>rfl)
     (.inr ⟨_,rfl,rfl⟩) ((jD _ _ _).trans s.env) (fun k _ hne=>setRow_other _ _ _ _ (fun e=>hne (by rw [hbo,e])))
     (fun b0 e=>.inl (by rw [hbo];rw [e2] at e;exact e))
     (fun X=>⟨b,_,tt,e2,setRow_heap w b c _ tt _ e3,by
      rw [yb hle,<- e4]
      simp only [List.size_toArray,List.length_append,List.length_take,List.length_drop,Array.length_toList];omega,
      fun x hx=>by rcases kL hx with hx | hx;exact e5 x hx;exact g2 x hx,
      zP.splice (e6.ext X) (by omega) hle (by simpa using g1) us (fun j x e=>by simpa using g4 j x e) (fun j x e=>X.rep (g5 j x e))⟩)
    exact ⟨_,_,h,β,run b o c tt e3 (by omega),hk',X,s'⟩
   ·cases h2
 | @gp ii n e o b q hi hv =>
   simp only [zbC] at h2
   split at h2
   ·rename_i te nl els e1
    split at h2
    ·rename_i hne
     obtain ⟨q1,q2⟩:=hv _ _ _ e1
     obtain ⟨q4,len,cap,q3⟩:=q2 hne.1.symm
     subst q4
     rcases s.blk ii _ e1 with ⟨_,_,h7⟩ | ⟨_,hnil,_⟩ | ⟨hnl,b',cap',c,h7,h8,h9,h10,h11,h12,h13,h14,h15,h16⟩
     ·rw [h7] at q3;cases q3
     ·subst hnil;simp at hne;omega
     ·rw [h7] at q3;cases q3
      have hlt : e < els.length:=by omega
      have hmem : els.getD e default ∈ els:=by rw [List.getD_eq_getElem?_getD,List.getElem?_eq_getElem hlt];simp
      have hget : els[e]? = some (els.getD e default):=by rw [List.getD_eq_getElem?_getD,List.getElem?_eq_getElem hlt];simp
      have hfl:=zK h14
      have hbo : blkOf β H ii = some b:=by simp [blkOf,e1,h7,anchor];omega
      have hmul : e * sz P te + sz P te <= els.length * sz P te:=by rw [<- Nat.succ_mul];exact Nat.mul_le_mul_right _ hlt
      have hcap2 : els.length * sz P te <= c.size:=by rw [h12];exact Nat.mul_le_mul_right _ h10
      -- one way for both forms: the new row
      have go : ∀ (x' : AV),x'.cells.length = sz P te -> o + r.cells.length <= sz P te -> (∀ y ∈ x'.cells,y.one = true) -> flat (els.set e x') = splice (flat els) (e * sz P te + o) r.cells -> k (.tup []) (H.set ii (.grow te nl (els.set e x'))) ->
        zdj P E h β H (Instr.storeAt t (.pointer (some ⟨b,e * sz P te + o,none⟩)) v) w k:=by
       intro x' hx1 hx2 hx3 hx4 hk
       obtain ⟨s',X⟩:=s.modify (β':=β) (w':=w.setRow b (c.toList.take (e * sz P te + o) ++ v.cells.toList ++ c.toList.drop (e * sz P te + o + v.cells.toList.length)).toArray) (x':=.grow te nl (els.set e x')) e1 (fun _ _=>rfl)
        (.inr ⟨_,_,rfl,by simp,fun _=>rfl⟩) ((jD _ _ _).trans s.env) (fun k _ hne=>setRow_other _ _ _ _ (fun e=>hne (by rw [hbo,e])))
        (fun b0 e=>.inl (by rw [hbo];rw [h7] at e;simp [anchor] at e;rw [e.2]))
        (fun X=>.inr (.inr ⟨hnl,b,cap,_,by rw [h7];simp,h8,setRow_heap w b c _ te _ h9,by simpa using h10,h11,by
         rw [<- h12]
         simp only [List.size_toArray,List.length_append,List.length_take,List.length_drop,Array.length_toList];omega,h13,
         fun y hy=>by rcases List.mem_or_eq_of_mem_set hy with hy | rfl;exact h14 y hy;exact hx1,
         fun y hy=>by rw [hx4] at hy;rcases kL hy with hy | hy;exact h15 y hy;exact g2 y hy,
         by rw [hx4];exact zP.splice (h16.ext X) (by omega) (by omega) (by simpa using g1) us (fun j x e=>by simpa using g4 j x e) (fun j x e=>X.rep (g5 j x e))⟩))
       exact ⟨_,_,h,β,run b (e * sz P te + o) c te h9 (by omega),hk,X,s'⟩
      split at h2
      ·cases h2
       rename_i hfull
       obtain ⟨rfl,hfull⟩:=hfull
       exact go r hfull (by omega) g2 (by rw [Nat.add_zero];exact zaU h14 e r hlt hfull) hk'
      ·split at h2 <;> cases h2
       rename_i hpart
       have hew : (els.getD e default).cells.length = sz P te:=h14 _ hmem
       have hle : o + r.cells.length <= (els.getD e default).cells.length:=by rw [hew];exact hpart.1
       refine go (.agg (splice (els.getD e default).cells o r.cells)) (by show (splice _ _ _).length = _;rw [yb hle];exact hew) hpart.1
        (fun y hy=>by rcases kL hy with hy | hy;exact wM hmem h15 y hy;exact g2 y hy) ?_ hk'
       rw [zaU h14 e _ hlt (by show (splice _ _ _).length = _;rw [yb hle];exact hew)]
       refine zbs (by omega) (fun j hj=>?_) hle
       exact ((vf h14 e j _ _ hget (List.getElem?_eq_getElem hj)).trans (List.getElem?_eq_getElem hj).symm).symm
    ·cases h2
   ·cases h2
 | _=>simp [zbC] at h2
end
end GA
end
section
namespace GA
open Go Go.RowKit
def fldK (P : Program) (s : TypeId) (f : Nat) : Option (Nat × Bool × Nat):=
 match P.underlying s with
 | some (.struct fs)=>match fs[f]? with | some fd=>(tyK P fd.type).map fun x=>(fd.offset,x.1,x.2) | none=>none
 | _=>none
def slK (P : Program) (t : TypeId) : Option Nat:=
 match P.underlying t with
 | some (.slice e)=>(tyK P e).map (·.2)
 | _=>none
def arK (P : Program) (t : TypeId) : Option (Nat × Bool × Nat):=
 match P.underlying t with
 | some (.array n e)=>(tyK P e).map fun x=>(n,x.1,x.2)
 | _=>none
def addP (p : AV) (off : Nat) : Option AV:=
 match p with
 | .pim cs=>some (.pim (cs.drop off))
 | .ptr i o=>some (.ptr i (o + off))
 | .gp i n e o=>some (.gp i n e (o + off))
 | _=>none
def nth (els : List AV) (i : Int) : AV:=els.getD i.toNat default
def j1 (P : Program) (s : TypeId) (p : AV) (f : Nat) (k : AV -> Prop) : Prop:=
 bnd (fldK P s f) fun x=>x.2.2 ≠ 0 /\ bnd (addP p x.1) k
def zb5 (cs : List AV) (ag : Bool) (off n : Nat) (k : AV -> Prop) : Prop:=
 if ag = true then off + n <= cs.length /\ k (.agg ((cs.drop off).take n)) else bnd cs[off]? k
def qo (P : Program) (s : TypeId) (x : AV) (f : Nat) (k : AV -> Prop) : Prop:=
 match x with
 | .agg cs=>bnd (fldK P s f) fun y=>zb5 cs y.2.1 y.1 y.2.2 k
 | _=>False
def gd (P : Program) (t : TypeId) (x i : AV) (k : AV -> Prop) : Prop:=
 match x,i with
 | .agg cs,.int _ n=>bnd (arK P t) fun y=>0 <= n /\ n < y.1 /\ zb5 cs y.2.1 (n.toNat * y.2.2) y.2.2 k
 | _,_=>False
def v2 (P : Program) (t : TypeId) (s : ByteArray) (i : AV) (k : AV -> Prop) : Prop:=
 match i with
 | .int _ n=>P.underlying t = some .string /\ 0 <= n /\ ∃ b,s[n.toNat]? = some b /\ k (.int .u8 b.toNat)
 | _=>False
def jc (P : Program) (t : TypeId) (H : List Blk) (x i : AV) (k : AV -> Prop) : Prop:=
 match i with
 | .int _ n=>match x with
   | .sl _ els=>bnd (slK P t) fun w=>0 <= n /\ n < els.length /\ (nth els n).cells.length = w /\ k (.pim (nth els n).cells)
   | .gr b m=>bnd (slK P t) fun w=>match H[b]? with | some (.grow te _ els)=>els.length = m /\ w = sz P te /\ 0 <= n /\ n < m /\ k (.gp b m n.toNat 0) | _=>False
   | .os b m o q=>bnd (slK P t) fun w=>match H[b]? with
     | some (.grow te _ els)=>els.length = m /\ w = sz P te /\ 0 <= n /\ n < q /\ k (.gp b m (o + n.toNat) 0)
     | some (.cells _)=>0 <= n /\ n < q /\ k (.ptr b (o + n.toNat * w))
     | _=>False
   | p=>bnd (arK P t) fun y=>0 <= n /\ n < y.1 /\ bnd (addP p (n.toNat * y.2.2)) k
 | _=>False
section
variable {P : Program} {E : Env} {h : Nat -> Option Obj} {β : Nat -> Value} {H : List Blk} {w : World}
theorem zaq (b o n : Nat) : (⟨b,o,none⟩ : Addr).add n = ⟨b,o + n,none⟩:=kA b o n
theorem addP_ok {p r : AV} {v : Value} (hp : Rep P h β H p v) {off : Nat} (e : addP p off = some r) : ∃ b o,v = .pointer (some ⟨b,o,none⟩) /\ Rep P h β H r (.pointer (some ⟨b,o + off,none⟩)):=by
 cases hp with
 | @pim b o c t fz cs us hone hb hc hr =>
   cases e
   exact ⟨b,o,rfl,.pim (fun j=>us (off + j)) (fun x hx=>hone x (List.mem_of_mem_drop hx)) hb (fun j x ex=>by rw [List.getElem?_drop] at ex;rw [Nat.add_assoc];exact hc _ _ ex) (fun j x ex=>by rw [List.getElem?_drop] at ex;exact hr _ _ ex)⟩
 | @ptr i o b hi hb=>cases e;exact ⟨b,o,rfl,.ptr hi hb⟩
 | @gp i n e' o b q hi hv =>
   cases e
   exact ⟨b,q,rfl,.gp hi fun t nl els e=>⟨(hv t nl els e).1,fun hl=>⟨by have:=((hv t nl els e).2 hl).1;omega,((hv t nl els e).2 hl).2⟩⟩⟩
 | _=>cases e
theorem gx {s : TypeId} {f : Nat} {x : Nat × Bool × Nat} (e : fldK P s f = some x) : ∃ fs fd i d,P.underlying s = some (.struct fs) /\ fs[f]? = some fd /\ P.info? fd.type = some i /\ P.underlying fd.type = some d /\ x = (fd.offset,j8 d,i.size):=by
 unfold fldK at e
 split at e
 ·rename_i fs h1
  split at e
  ·rename_i fd h2
   cases h3 : tyK P fd.type with
   | none=>simp [h3] at e
   | some y =>
     obtain ⟨i,d,h4,h5,rfl⟩:=wb h3
     simp [h3] at e
     exact ⟨fs,fd,i,d,h1,h2,h4,h5,e.symm⟩
  ·cases e
 ·cases e
theorem wz {t : TypeId} {n : Nat} (e : slK P t = some n) : ∃ el i d,P.underlying t = some (.slice el) /\ P.info? el = some i /\ P.underlying el = some d /\ n = i.size:=by
 unfold slK at e
 split at e
 ·rename_i el h1
  cases h3 : tyK P el with
  | none=>simp [h3] at e
  | some y =>
    obtain ⟨i,d,h4,h5,rfl⟩:=wb h3
    simp [h3] at e
    exact ⟨el,i,d,h1,h4,h5,e.symm⟩
 ·cases e
theorem va {t : TypeId} {x : Nat × Bool × Nat} (e : arK P t = some x) : ∃ n el i d,P.underlying t = some (.array n el) /\ P.info? el = some i /\ P.underlying el = some d /\ x = (n,j8 d,i.size):=by
 unfold arK at e
 split at e
 ·rename_i n el h1
  cases h3 : tyK P el with
  | none=>simp [h3] at e
  | some y =>
    obtain ⟨i,d,h4,h5,rfl⟩:=wb h3
    simp [h3] at e
    exact ⟨n,el,i,d,h1,h4,h5,e.symm⟩
 ·cases e
theorem qF {t : TypeId} {d : TypeDesc} (hd : P.underlying t = some d) : (isAgg t).run P w = .ok (j8 d) w:=by
 unfold isAgg;rw [Sem.run_bind,run_underlying hd];cases d <;> rfl
theorem q0 (s : SR P E h β H w) {t : TypeId} {p : AV} {v : Value} (hp : Rep P h β H p v) {f : Nat} {k : AV -> Prop} (hk : j1 P t p f k) :
  zl P E h β H (Instr.fieldAt t v f) w (fun r H'=>H' = H /\ k r):=by
 obtain ⟨x,h1,hne,hk⟩:=zd hk
 obtain ⟨r,h2,hk'⟩:=zd hk
 obtain ⟨fs,fd,i,d,h3,h4,h5,h6,rfl⟩:=gx h1
 obtain ⟨b,o,rfl,hr⟩:=addP_ok hp h2
 refine zl.pure s ?_ hr ⟨rfl,hk'⟩
 have hz : i.size ≠ 0:=hne
 simp [Instr.fieldAt,run_underlying h3,h4,Instr.sureAddr,fieldPlace,Go.sizeOf,typeInfo,h5,hz,zaq]
theorem zem {cs : List AV} {vs : Array Value} (hr : Rep P h β H (.agg cs) (.agg vs)) {t : TypeId} {i : TypeInfo} {d : TypeDesc} (hi : P.info? t = some i) (hd : P.underlying t = some d) {off : Nat} {k : AV -> Prop}
  (hk : zb5 cs (j8 d) off i.size k) : ∃ v r,(part t vs off).run P w = .ok v w /\ Rep P h β H r v /\ k r:=by
 cases hr with
 | agg us hs hone hc hr =>
   unfold zb5 at hk
   by_cases hg : j8 d = true
   ·simp only [hg,if_true] at hk
    refine ⟨.agg (vs.extract off (off + i.size)),.agg ((cs.drop off).take i.size),?_,.agg (fun j=>us (off + j)) ?_ (fun x hx=>hone x (List.mem_of_mem_drop (List.mem_of_mem_take hx))) (fun j x e=>?_) (fun j x e=>?_),hk.2⟩
    ·unfold part;rw [Sem.run_bind,qF hd];simp [hg,Go.sizeOf,typeInfo,hi]
    ·simp;omega
    ·rw [List.getElem?_take] at e
     split at e
     ·rw [List.getElem?_drop] at e
      rw [Array.getElem?_extract,if_pos (by rw [hs];omega)]
      exact hc _ _ e
     ·cases e
    ·rw [List.getElem?_take] at e
     split at e
     ·rw [List.getElem?_drop] at e;exact hr _ _ e
     ·cases e
   ·simp only [hg,if_false,Bool.false_eq_true] at hk
    obtain ⟨r,h1,hk⟩:=zd hk
    refine ⟨us off,r,?_,hr _ _ h1,hk⟩
    unfold part;rw [Sem.run_bind,qF hd];simp [hg,hc _ _ h1]
theorem zbr (s : SR P E h β H w) {t : TypeId} {x : AV} {v : Value} (hx : Rep P h β H x v) {f : Nat} {k : AV -> Prop} (hk : qo P t x f k) :
  zl P E h β H (Instr.field t v f) w (fun r H'=>H' = H /\ k r):=by
 unfold qo at hk
 split at hk
 ·obtain ⟨y,h1,hk⟩:=zd hk
  obtain ⟨fs,fd,i,d,h3,h4,h5,h6,rfl⟩:=gx h1
  have hv : ∃ vs,v = .agg vs:=by cases hx;exact ⟨_,rfl⟩
  obtain ⟨vs,rfl⟩:=hv
  obtain ⟨u,r,e1,e2,e3⟩:=zem (w:=w) hx h5 h6 hk
  refine zl.pure s ?_ e2 ⟨rfl,e3⟩
  simp [Instr.field,run_underlying h3,h4,asAgg,e1]
 ·exact hk.elim
theorem zbw (s : SR P E h β H w) {t : TypeId} {x i : AV} {v u : Value} (hx : Rep P h β H x v) (hi : Rep P h β H i u) {k : AV -> Prop} (hk : gd P t x i k) :
  zl P E h β H (Instr.index t v u) w (fun r H'=>H' = H /\ k r):=by
 unfold gd at hk
 split at hk
 ·obtain ⟨y,h1,h2,h3,hk⟩:=zd hk
  obtain ⟨n,el,i,d,h4,h5,h6,rfl⟩:=va h1
  cases z9 hi
  have hv : ∃ vs,v = .agg vs:=by cases hx;exact ⟨_,rfl⟩
  obtain ⟨vs,rfl⟩:=hv
  obtain ⟨u,r,e1,e2,e3⟩:=zem (w:=w) hx h5 h6 hk
  refine zl.pure s ?_ e2 ⟨rfl,e3⟩
  have h3' : _ < (n : Int):=h3
  simp [Instr.index,asIntOf,run_underlying h4,h2,h3',Go.sizeOf,typeInfo,h5,e1]
 ·exact hk.elim
theorem gu (s : SR P E h β H w) {t : TypeId} {c : ByteArray} {i : AV} {u : Value} (hi : Rep P h β H i u) {k : AV -> Prop} (hk : v2 P t c i k) :
  zl P E h β H (Instr.index t (.string c) u) w (fun r H'=>H' = H /\ k r):=by
 unfold v2 at hk
 split at hk
 ·obtain ⟨h1,h2,b,h3,hk⟩:=hk
  cases hi
  refine zl.pure s (r:=.int .u8 b.toNat) ?_ (.int _ _) ⟨rfl,hk⟩
  simp [Instr.index,asIntOf,run_underlying h1,h2,h3]
 ·exact hk.elim
theorem qY (s : SR P E h β H w) {t : TypeId} {x i : AV} {v u : Value} (hx : Rep P h β H x v) (hi : Rep P h β H i u) {k : AV -> Prop} (hk : jc P t H x i k) :
  zl P E h β H (Instr.indexAt t v u) w (fun r H'=>H' = H /\ k r):=by
 unfold jc at hk
 split at hk
 ·rename_i n
  cases z9 hi
  split at hk
  ·rename_i nl els
   obtain ⟨wd,h1,h2,h3,h4,hk⟩:=zd hk
   obtain ⟨el,ie,d,h5,h6,h7,rfl⟩:=wz h1
   cases hx with
   | slnil=>simp at h3;omega
   | slemp=>simp at h3;omega
   | @sl b off cap c tt fz els w' nn us hn hne hb hw hw0 hone hcap hc hr =>
     subst hn
     have hlt : n.toNat < els.length:=by omega
     have hget : els[n.toNat]? = some (nth els n):=by unfold nth;rw [List.getD_eq_getElem?_getD,List.getElem?_eq_getElem hlt];simp
     have hmem : nth els n ∈ els:=List.mem_of_getElem? hget
     have hww : w' = ie.size:=(hw _ hmem).symm.trans h4
     have hf:=fun j x (ex : (nth els n).cells[j]? = some x)=>vf hw n.toNat j _ x hget ex
     refine zl.pure s (v:=.pointer (some ⟨b,off + n.toNat * ie.size,none⟩)) ?_ (.pim (fun j=>us (n.toNat * w' + j)) (wM hmem hone) hb (fun j x ex=>?_) (fun j x ex=>hr _ _ (hf j x ex))) ⟨rfl,hk⟩
     ·simp [Instr.indexAt,asIntOf,run_underlying h5,h2,h3,Go.sizeOf,typeInfo,h6,zaq]
     ·rw [<- hww,Nat.add_assoc];exact hc _ _ (hf j x ex)
  ·rename_i b m
   obtain ⟨wd,h1,hk⟩:=zd hk
   obtain ⟨el,ie,d,h5,h6,h7,rfl⟩:=wz h1
   split at hk
   ·rename_i te nl els e1
    obtain ⟨h8,h9,h10,h11,hk⟩:=hk
    cases hx with
    | gr ho hb hv =>
      obtain ⟨_,h12⟩:=hv _ _ _ e1
      have h13:=h12 h8
      rcases s.blk b _ e1 with ⟨_,h14,_⟩ | ⟨_,h14,_⟩ | ⟨_,bb,cap,c,h15,h16,h17,h18,h19,h20,h21,h22,h23,h24⟩
      ·subst h14;simp at h8;omega
      ·subst h14;simp at h8;omega
      ·rw [h15] at h13
       subst h13
       refine zl.pure s (v:=.pointer (some ⟨bb,0 + n.toNat * ie.size,none⟩)) ?_ (.gp hb fun t' nl' els' e'=>?_) ⟨rfl,hk⟩
       ·have : n < (els.length : Int):=by omega
        simp [Instr.indexAt,asIntOf,run_underlying h5,h10,this,Go.sizeOf,typeInfo,h6,zaq]
       ·rw [e1] at e';cases e'
        exact ⟨by omega,fun _=>⟨by rw [h9];omega,_,_,h15⟩⟩
   ·exact hk.elim
  ·rename_i bk m o q
   obtain ⟨wd,h1,hk⟩:=zd hk
   obtain ⟨el,ie,d,h5,h6,h7,rfl⟩:=wz h1
   cases hx with
   | @os _ _ _ _ bb qq cap hl hnc hc hg _ =>
     have run : ∀ (ik : IntKind),0 <= n -> n < (q : Int) -> (Instr.indexAt t (.slice (some ⟨bb,qq,none⟩) q cap) (.int ik n)).run P w = .ok (.pointer (some ⟨bb,qq + n.toNat * ie.size,none⟩)) w:=fun ik h10 h11=>by
      simp [Instr.indexAt,asIntOf,run_underlying h5,h10,h11,Go.sizeOf,typeInfo,h6,zaq]
     split at hk
     ·rename_i te nl els e1
      obtain ⟨h8,h9,h10,h11,hk⟩:=hk
      obtain ⟨g1,g2⟩:=hg _ _ _ e1
      obtain ⟨g3,g4,g5⟩:=g2 h8 (by omega)
      refine zl.pure s (run _ h10 h11) (.gp hl fun t' nl' els' e'=>?_) ⟨rfl,hk⟩
      rw [e1] at e';cases e'
      exact ⟨g1,fun _=>⟨by rw [g4,h9,Nat.add_mul];omega,g5⟩⟩
     ·rename_i cs e1
      obtain ⟨h10,h11,hk⟩:=hk
      refine zl.pure s (run _ h10 h11) ?_ ⟨rfl,hk⟩
      obtain ⟨g1,g2⟩:=hc _ e1 (by omega)
      rw [g1]
      exact .ptr hl fun cs' e'=>g2
     ·exact hk.elim
  ·rename_i p hp1 hp2
   obtain ⟨y,h1,h2,h3,hk⟩:=zd hk
   obtain ⟨r,h4,hk'⟩:=zd hk
   obtain ⟨len,el,ie,d,h5,h6,h7,rfl⟩:=va h1
   obtain ⟨b,o,rfl,hr⟩:=addP_ok hx h4
   refine zl.pure s ?_ hr ⟨rfl,hk'⟩
   have h3' : n < (len : Int):=h3
   simp [Instr.indexAt,asIntOf,run_underlying h5,Instr.sureAddr,h2,h3',Go.sizeOf,typeInfo,h6,zaq]
 ·exact hk.elim
end
end GA
end
section
namespace GA
open Go Go.RowKit
def kP (P : Program) (t : TypeId) (i : Nat) : Option (Nat × Nat):=
 match P.underlying t with
 | some (.struct _)=>(fldK P t i).map fun x=>(x.1,x.2.2)
 | some (.array _ _)=>(arK P t).map fun y=>(i * y.2.2,y.2.2)
 | _=>none
def allK (P : Program) (t : TypeId) : Bool:=
 match P.underlying t with
 | some (.struct fs)=>fs.all fun f=>(P.info? f.type).isSome
 | some (.array _ el)=>(P.info? el).isSome
 | _=>false
def zaf (place : Nat -> Option (Nat × Nat)) (cells : List AV) : List (Nat × AV) -> Option (List AV)
 | []=>some cells
 | (i,v) :: rest =>
   match place i with
   | none=>none
   | some (off,n)=>if v.cells.length = n /\ off + n <= cells.length /\ v.isTup = false then zaf place (splice cells off v.cells) rest else none
def evP (σ : St) : List (Nat × Operand) -> Option (List (Nat × AV))
 | []=>some []
 | (i,x) :: l=>match ev σ x,evP σ l with | some a,some r=>some ((i,a) :: r) | _,_=>none
def zcO (P : Program) (t : TypeId) (ps : List (Nat × AV)) (k : AV -> Prop) : Prop:=
 allK P t = true /\ bnd (z6 P t) fun z=>match z with | .agg zc=>bnd (zaf (kP P t) zc ps) fun cs=>k (.agg cs) | _=>False
section
variable {P : Program} {E : Env} {h : Nat -> Option Obj} {β : Nat -> Value} {H : List Blk} {w : World} {σ : St} {a : Act}
theorem jQ (off : Nat) : ∀ (l : List Value) (n : Nat) (cells : Array Value),((l.zipIdx n).foldl (fun cs (x : Value × Nat)=>cs.setIfInBounds (off + x.2) x.1) cells).size = cells.size
 | [],_,_=>rfl
 | v :: l,n,cells=>by simp only [List.zipIdx_cons,List.foldl_cons];rw [jQ off l];simp
theorem j6 (off : Nat) : ∀ (l : List Value) (n : Nat) (cells : Array Value),off + n + l.length <= cells.size -> ∀ k,k < cells.size ->
  ((l.zipIdx n).foldl (fun cs (x : Value × Nat)=>cs.setIfInBounds (off + x.2) x.1) cells)[k]? = if off + n <= k /\ k < off + n + l.length then l[k - (off + n)]? else cells[k]?
 | [],n,cells,_,k,hk=>by simp;omega
 | v :: l,n,cells,hl,k,hk=>by
   simp only [List.zipIdx_cons,List.foldl_cons]
   rw [j6 off l (n + 1) (cells.setIfInBounds (off + n) v) (by simp at hl ⊢;omega) k (by simpa using hk)]
   by_cases h1 : off + n = k
   ·subst h1
    rw [if_neg (by omega),if_pos (by simp)]
    simp [hk]
   ·rw [Array.getElem?_setIfInBounds_ne h1]
    by_cases h2 : off + (n + 1) <= k /\ k < off + (n + 1) + l.length
    ·rw [if_pos h2,if_pos (by simp;omega)]
     rw [show k - (off + n) = (k - (off + (n + 1))) + 1 by omega];simp
    ·rw [if_neg h2,if_neg (by simp;omega)]
theorem zcB {place : Nat -> Option (Nat × Nat)} {place' : Nat -> Option (Nat × Nat)} (hp : ∀ i x,place i = some x -> place' i = some x) (s : SR P E h β H w) :
  ∀ {ps : List (Nat × AV)} {vs : List (Nat × Value)} {z cs : List AV} {cells : Array Value},vs.length = ps.length -> (∀ (j : Nat) x,ps[j]? = some x -> ∃ v,vs[j]? = some (x.1,v) /\ Rep P h β H x.2 v) ->
   cells.size = z.length -> (∀ x ∈ z,x.one = true) -> zP P h β H z cells -> zaf place z ps = some cs ->
   ∃ cells',Instr.fill place' cells vs = some cells' /\ cells'.size = cs.length /\ (∀ x ∈ cs,x.one = true) /\ zP P h β H cs cells'
 | [],vs,z,cs,cells,hl,_,hs,ho,hc,e=>by
   cases e
   have : vs = []:=List.eq_nil_of_length_eq_zero hl
   subst this
   exact ⟨cells,rfl,hs,ho,hc⟩
 | (i,r) :: ps,vs,z,cs,cells,hl,hv,hs,ho,hc,e=>by
   obtain ⟨v,h1,h2⟩:=hv 0 _ rfl
   cases vs with
   | nil=>simp at hl
   | cons x vs =>
     simp at h1;subst h1
     simp only at h2
     simp only [zaf] at e
     split at e
     ·cases e
     ·rename_i off n hpl
      split at e
      ·rename_i hcond
       obtain ⟨c1,c2,c3⟩:=hcond
       obtain ⟨g1,g2,g3,us,g4,g5⟩:=yT s h2 c3
       have hle : off + r.cells.length <= z.length:=by omega
       let cells1 : Array Value:=v.cells.zipIdx.foldl (fun cs (x : Value × Nat)=>cs.setIfInBounds (off + x.2) x.1) cells
       have q : cells1 = (v.cells.toList.zipIdx 0).foldl (fun cs (x : Value × Nat)=>cs.setIfInBounds (off + x.2) x.1) cells:=by
        simp only [cells1];rw [<- Array.foldl_toList,Array.toList_zipIdx]
       have qs : cells1.size = cells.size:=by rw [q];exact jQ _ _ _ _
       have qg : ∀ k,k < cells.size -> cells1[k]? = if off <= k /\ k < off + r.cells.length then v.cells[k - off]? else cells[k]?:=by
        intro k hk
        have g1' : v.cells.size = r.cells.length:=g1
        rw [q,j6 off _ 0 cells (by simp;omega) k hk]
        simp [g1']
       have hc1 : zP P h β H (splice z off r.cells) cells1:=by
        obtain ⟨vs0,a1,a2⟩:=hc
        refine ⟨fun j=>if off <= j /\ j < off + r.cells.length then us (j - off) else vs0 j,fun j x e=>?_,fun j x e=>?_⟩
        ·have hj : j < z.length:=by have:=(List.getElem?_eq_some_iff.1 e).1;rwa [yb hle] at this
         rw [qg j (by omega)]
         rw [y8 hle] at e
         by_cases b1 : j < off
         ·have b2 : ¬ (off <= j /\ j < off + r.cells.length):=by omega
          simp only [b1,b2,if_true,if_false] at e ⊢;exact a1 j x e
         ·by_cases b2 : j < off + r.cells.length
          ·have b3 : off <= j /\ j < off + r.cells.length:=by omega
           simp only [b1,b2,b3,if_true,if_false] at e ⊢;exact g4 _ x e
          ·have b3 : ¬ (off <= j /\ j < off + r.cells.length):=by omega
           show _ = some (if off <= j /\ j < off + r.cells.length then _ else _)
           rw [if_neg b3,if_neg b3];simp only [b1,b2,if_false] at e;exact a1 j x e
        ·rw [y8 hle] at e
         by_cases b1 : j < off
         ·have b2 : ¬ (off <= j /\ j < off + r.cells.length):=by omega
          simp only [b1,b2,if_true,if_false] at e ⊢;exact a2 j x e
         ·by_cases b2 : j < off + r.cells.length
          ·have b3 : off <= j /\ j < off + r.cells.length:=by omega
           simp only [b1,b2,b3,if_true,if_false] at e ⊢;exact g5 _ x e
          ·have b3 : ¬ (off <= j /\ j < off + r.cells.length):=by omega
           show Rep P h β H x (if off <= j /\ j < off + r.cells.length then _ else _)
           rw [if_neg b3];simp only [b1,b2,if_false] at e;exact a2 j x e
       obtain ⟨cells',e1,e2,e3,e4⟩:=zcB hp s (ps:=ps) (vs:=vs) (z:=splice z off r.cells) (cells:=cells1) (by simpa using hl) (fun j x ex=>by simpa using hv (j + 1) x (by simpa using ex))
        (by rw [qs,yb hle];exact hs) (fun x hx=>by rcases kL hx with hx | hx;exact ho x hx;exact g2 x hx) hc1 e
       refine ⟨cells',?_,e2,e3,e4⟩
       simp only [Instr.fill,hp _ _ hpl]
       have g1' : v.cells.size = r.cells.length:=g1
       have c1' : r.cells.length = n:=c1
       rw [if_neg (by simp only [ne_eq,Bool.or_eq_true,decide_eq_true_eq];omega)]
       exact e1
      ·cases e
theorem vR {α γ : Type} (f : α -> Sem γ) (g : α -> γ) : ∀ (l : List α),(∀ x ∈ l,(f x).run P w = .ok (g x) w) -> (l.mapM f).run P w = .ok (l.map g) w
 | [],_=>rfl
 | x :: l,hx=>by
   rw [List.mapM_cons,Sem.run_bind,hx x (by simp)]
   simp [vR f g l (fun y hy=>hx y (by simp [hy]))]
theorem zeC (fs : Array Field) (ha : (fs.all fun f=>(P.info? f.type).isSome) = true) :
  (fs.mapM (fun f : Field=>(do pure (f.offset,<- Go.sizeOf f.type) : Sem (Nat × Nat)))).run P w = .ok (fs.map fun f=>(f.offset,P.cellsOf f.type)) w:=by
 have h1:=vR (P:=P) (w:=w) (fun f : Field=>(do pure (f.offset,<- Go.sizeOf f.type) : Sem (Nat × Nat))) (fun f=>(f.offset,P.cellsOf f.type)) fs.toList (fun f hf=>by
  have:=(Array.all_eq_true'.1 ha) f (Array.mem_toList_iff.1 hf)
  cases hi : P.info? f.type with
  | none=>simp [hi] at this
  | some i=>simp [Go.sizeOf,typeInfo,hi,Program.cellsOf])
 rw [Array.mapM_eq_mapM_toList,Sem.run_map,h1]
 simp only [Result.andThen_ok]
 rw [<- List.map_toArray,Array.toArray_toList]
theorem evP_ok (F : Fits P h β H σ a) : ∀ {l : List (Nat × Operand)} {rs : List (Nat × AV)},evP σ l = some rs -> (l.map fun x=>(x.1,a.eval x.2)).length = rs.length /\
  ∀ (j : Nat) x,rs[j]? = some x -> ∃ v,(l.map fun x=>(x.1,a.eval x.2))[j]? = some (x.1,v) /\ Rep P h β H x.2 v
 | [],rs,e=>by cases e;simp
 | (i,x) :: l,rs,e=>by
   unfold evP at e
   split at e <;> cases e
   rename_i r rs h1 h2
   obtain ⟨i1,i2⟩:=evP_ok F h2
   refine ⟨by simpa using i1,fun j x e=>?_⟩
   cases j with
   | zero=>simp at e;subst e;exact ⟨_,rfl,F.ev h1⟩
   | succ j=>simp only [List.getElem?_cons_succ] at e;simpa using i2 j x e
theorem jO {t : TypeId} {z : AV} (hz : z6 P t = some z) : ∃ i zv,P.info? t = some i /\ i.zero = some zv /\ toAV zv = some z:=by
 unfold z6 at hz
 cases h1 : P.info? t with
 | none=>simp [h1] at hz
 | some i =>
   cases h2 : i.zero with
   | none=>simp [h1,h2] at hz
   | some zv=>simp [h1,h2] at hz;exact ⟨i,zv,rfl,h2,hz⟩
theorem zbt (s : SR P E h β H w) {t : TypeId} {ps : List (Nat × AV)} {vs : List (Nat × Value)} (hl : vs.length = ps.length) (hv : ∀ (j : Nat) x,ps[j]? = some x -> ∃ v,vs[j]? = some (x.1,v) /\ Rep P h β H x.2 v)
  {k : AV -> Prop} (hk : zcO P t ps k) : zl P E h β H (Instr.build t vs.toArray) w (fun r H'=>H' = H /\ k r):=by
 obtain ⟨ha,hk⟩:=hk
 obtain ⟨z,h1,hk⟩:=zd hk
 split at hk
 case h_2=>exact hk.elim
 rename_i zc
 obtain ⟨cs,h2,hk⟩:=zd hk
 obtain ⟨i,zv,h3,h4,h5⟩:=jO h1
 have hzr:=k5 (P:=P) (h:=h) (β:=β) (H:=H) h5
 have htup : (AV.agg zc).isTup = false:=rfl
 obtain ⟨g1,g2,g3,us,g4,g5⟩:=yT s hzr htup
 have hz : (zeroValue t).run P w = .ok zv w:=by simp [zeroValue,typeInfo,h3,h4]
 unfold allK at ha
 split at ha
 ·rename_i fs hu
  obtain ⟨cells',e1,e2,e3,us',e4,e5⟩:=zcB (place:=kP P t) (place':=fun i=>(fs.map fun f=>(f.offset,P.cellsOf f.type))[i]?) (fun i x e=>by
   unfold kP at e;rw [hu] at e
   cases hf : fldK P t i with
   | none=>simp [hf] at e
   | some y =>
     obtain ⟨fs',fd,i',d,q1,q2,q3,q4,rfl⟩:=gx hf
     rw [hu] at q1;cases q1
     simp [hf] at e;subst e
     simp [q2,Program.cellsOf,q3]) s hl hv (by simpa using g1) g2 ⟨us,g4,g5⟩ h2
  refine zl.pure s (v:=.agg cells') ?_ (.agg us' e2 e3 e4 e5) ⟨rfl,hk⟩
  have e1' : Instr.fill (fun x=>(fs.map fun f=>(f.offset,P.cellsOf f.type))[x]?) zv.cells vs = some cells':=e1
  unfold Instr.build
  simp only [Sem.run_bind,hz,Result.andThen_ok,run_underlying hu,zeC fs ha]
  rw [e1'];rfl
 ·rename_i n el hu
  have : (arK P t).isSome = true \/ ps = []:=by
   cases ps with
   | nil=>exact .inr rfl
   | cons x l =>
     left
     cases har : arK P t with
     | some y=>rfl
     | none=>simp [zaf,kP,hu,har] at h2
  obtain ⟨cells',e1,e2,e3,us',e4,e5⟩:=zcB (place:=kP P t) (place':=fun i=>some (i * P.cellsOf el,P.cellsOf el)) (fun i x e=>by
   unfold kP at e;rw [hu] at e
   cases hf : arK P t with
   | none=>simp [hf] at e
   | some y =>
     obtain ⟨n',el',i',d,q1,q2,q3,rfl⟩:=va hf
     rw [hu] at q1;cases q1
     simp [hf] at e;subst e
     simp [Program.cellsOf,q2]) s hl hv (by simpa using g1) g2 ⟨us,g4,g5⟩ h2
  refine zl.pure s (v:=.agg cells') ?_ (.agg us' e2 e3 e4 e5) ⟨rfl,hk⟩
  cases hi : P.info? el with
  | none=>simp [hi] at ha
  | some ie=>simp [Instr.build,hz,run_underlying hu,Go.sizeOf,typeInfo,hi,show ie.size = P.cellsOf el from by simp [Program.cellsOf,hi],e1]
 ·cases ha
end
end GA
end
section
namespace GA
open Go Go.RowKit
def slE (P : Program) (t : TypeId) : Option (TypeId × Nat × Nat):=
 match P.underlying t with
 | some (.slice e)=>match P.info? e,z6 P e with | some i,some z=>if z.cells.length = i.size /\ 0 < i.size /\ z.isTup = false then some (e,i.size,i.bytes) else none | _,_=>none
 | _=>none
def dense : Nat -> List (Nat × AV) -> Option (List AV)
 | _,[]=>some []
 | i,(j,v) :: l=>if j = i then (dense (i + 1) l).map (v :: ·) else none
def wide (w : Nat) : List AV -> Bool
 | []=>true
 | e :: l=>e.cells.length == w && !e.isTup && wide w l
def jv (P : Program) (own : Bool) (t : TypeId) (len : Nat) (ps : List (Nat × AV)) (H : List Blk) (k : AV -> List Blk -> Prop) : Prop:=
 bnd (slE P t) fun x=>bnd (dense 0 ps) fun els=>(els.length = len /\ len * x.2.1 <= 16777216 /\ wide x.2.1 els = true) /\
  (if own = true then k (.gr H.length len) (H ++ [.grow x.1 false els]) else if len = 0 then k .se H else k (.sl false els) H)
def k0 (P : Program) (t : TypeId) (l c : AV) (H : List Blk) (k : AV -> List Blk -> Prop) : Prop:=
 match l,c with
 | .int _ l,.int _ c=>bnd (slE P t) fun x=>bnd (z6 P x.1) fun z=>(0 <= l /\ l <= c /\ c * x.2.2 <= 140737488355328 /\ c <= 4611686018427387904) /\
   (k (.gr H.length l.toNat) (H ++ [.grow x.1 false (List.replicate l.toNat z)]) \/ ∃ i,H[i]? = some .free /\ k (.gr i l.toNat) (H.set i (.grow x.1 false (List.replicate l.toNat z))))
 | _,_=>False
def vU (H : List Blk) : AV -> Option (List AV)
 | .sl _ els=>some els
 | .se=>some []
 | .gr i n=>match H[i]? with | some (.grow _ _ els)=>if els.length = n then some els else none | _=>none
 | .os i m o n=>match H[i]? with
   | some (.grow _ _ els)=>if els.length = m /\ o + n <= m then some ((els.drop o).take n) else none
   | some (.cells cs)=>if o + n <= cs.length then some ((cs.drop o).take n) else none
   | _=>none
 | _=>none
def wy (P : Program) (t : TypeId) (s x : AV) (H : List Blk) (k : AV -> List Blk -> Prop) : Prop:=
 bnd (slE P t) fun y=>bnd (vU H x) fun new=>(wide y.2.1 new = true) /\
  match s with
  | .sl true _=>((new.length : Int) * y.2.2 <= 140737488355328 /\ (new.length : Int) <= 4611686018427387904) /\ k (.gr H.length new.length) (H ++ [.grow y.1 new.isEmpty new])
  | .se=>((new.length : Int) * y.2.2 <= 140737488355328 /\ (new.length : Int) <= 4611686018427387904) /\ k (.gr H.length new.length) (H ++ [.grow y.1 false new])
  | .gr i n=>match H[i]? with
    | some (.grow te nl els)=>(te = y.1 /\ els.length = n /\ ((n + new.length : Nat) : Int) * y.2.2 <= 140737488355328 /\ ((n + new.length : Nat) : Int) <= 4611686018427387904) /\
      k (.gr i (n + new.length)) (H.set i (.grow te (nl && new.isEmpty) (els ++ new)))
    | _=>False
  | _=>False
def v6 (P : Program) (t : TypeId) (i m n : Nat) (te : TypeId) (nl : Bool) (els new : List AV) (H : List Blk) (k : AV -> List Blk -> Prop) : Prop:=
 bnd (slE P t) fun y=>(te = y.1 /\ wide y.2.1 new = true /\ n < m /\ n + new.length = m) /\ k (.gr i m) (H.set i (.grow te nl (els.take n ++ new)))
def wu (P : Program) (t : TypeId) (s x : AV) (H : List Blk) (k : AV -> List Blk -> Prop) : Prop:=
 match s with
 | .os i m o n=>match x with
   | .sl _ new=>match H[i]? with
     | some (.grow te nl els)=>(o = 0 /\ els.length = m /\ 0 < m) /\ ((n = m /\ wy P t (.gr i m) x H k) \/ v6 P t i m n te nl els new H k)
     | _=>False
   | _=>False
 | s=>wy P t s x H k
section
variable {P : Program} {E : Env} {h : Nat -> Option Obj} {β : Nat -> Value} {H : List Blk} {w : World} {σ : St} {a : Act}
theorem jJ {t : TypeId} {x : TypeId × Nat × Nat} (e : slE P t = some x) : ∃ el i z,P.underlying t = some (.slice el) /\ P.info? el = some i /\ z6 P el = some z /\ z.cells.length = i.size /\ 0 < i.size /\ z.isTup = false /\ x = (el,i.size,i.bytes):=by
 unfold slE at e
 split at e
 ·rename_i el h1
  split at e
  ·rename_i i z h2 h3
   split at e
   ·rename_i h4
    cases e
    exact ⟨el,i,z,h1,h2,h3,h4.1,h4.2.1,h4.2.2,rfl⟩
   ·cases e
  ·cases e
 ·cases e
theorem yO {n : Nat} : ∀ {els : List AV},wide n els = true -> ∀ e ∈ els,e.cells.length = n /\ e.isTup = false
 | [],_=>by simp
 | a :: l,hw=>by
   simp only [wide,Bool.and_eq_true,beq_iff_eq,Bool.not_eq_true'] at hw
   intro e he
   rcases List.mem_cons.1 he with rfl | he
   ·exact hw.1
   ·exact yO hw.2 e he
theorem zZ (a b : List AV) : flat (a ++ b) = flat a ++ flat b:=by simp [flat]
theorem rows_ok (s : SR P E h β H w) {n : Nat} : ∀ {rs : List AV} {vs : List Value},RepL P h β H rs vs -> wide n rs = true ->
  ∃ cs : List Value,cs.length = rs.length * n /\ (∀ x ∈ flat rs,x.one = true) /\ (∀ u ∈ cs,u.oneCell' = true) /\ cs = vs.flatMap (fun v=>v.cells.toList) /\
   ∃ us : Nat -> Value,(∀ (j : Nat) x,(flat rs)[j]? = some x -> cs[j]? = some (us j)) /\ ∀ (j : Nat) x,(flat rs)[j]? = some x -> Rep P h β H x (us j)
 | [],vs,hr,_=>by
   have : vs = []:=List.eq_nil_of_length_eq_zero hr.1
   subst this
   exact ⟨[],by simp,by simp [flat],by simp,rfl,fun _=>undef,by simp [flat],by simp [flat]⟩
 | r :: rs,vs,hr,hw=>by
   have hr0:=hr
   obtain ⟨h1,h2⟩:=hr
   obtain ⟨v,h3,h4⟩:=h2 0 r rfl
   cases vs with
   | nil=>simp at h1
   | cons v' vs =>
     simp at h3;subst h3
     simp only [wide,Bool.and_eq_true,beq_iff_eq,Bool.not_eq_true'] at hw
     obtain ⟨g1,g2,g3,us,g4,g5⟩:=yT s h4 hw.1.2
     obtain ⟨cs,i1,i2,i3,i4,us',i5,i6⟩:=rows_ok s (n:=n) (rs:=rs) (vs:=vs) ⟨by simpa using h1,fun j x e=>by simpa using h2 (j + 1) x (by simpa using e)⟩ hw.2
     have hlen : v'.cells.toList.length = n:=by simp [g1,hw.1.1]
     have hrl : r.cells.length = n:=hw.1.1
     refine ⟨v'.cells.toList ++ cs,by simp only [List.length_append,hlen,i1,List.length_cons,Nat.succ_mul];omega,?_,?_,by simp [i4],fun j=>if j < n then us j else us' (j - n),?_,?_⟩
     ·intro x hx
      simp only [flat,List.flatMap_cons,List.mem_append] at hx
      rcases hx with hx | hx
      ·exact g2 x hx
      ·exact i2 x hx
     ·intro u hu
      rcases List.mem_append.1 hu with hu | hu
      ·exact g3 u hu
      ·exact i3 u hu
     ·intro j x e
      simp only [flat,List.flatMap_cons] at e
      by_cases hj : j < n
      ·rw [List.getElem?_append_left (by omega)] at e
       rw [List.getElem?_append_left (by omega)]
       simp only [hj,if_true]
       simpa using g4 j x e
      ·rw [List.getElem?_append_right (by omega),hrl] at e
       rw [List.getElem?_append_right (by omega),hlen]
       simp only [hj,if_false]
       exact i5 _ x e
     ·intro j x e
      simp only [flat,List.flatMap_cons] at e
      by_cases hj : j < n
      ·rw [List.getElem?_append_left (by omega)] at e
       simp only [hj,if_true];exact g5 j x e
      ·rw [List.getElem?_append_right (by omega),hrl] at e
       simp only [hj,if_false];exact i6 _ x e
theorem ku {n : Nat} {els : List AV} (hw : ∀ e ∈ els,e.cells.length = n) (l m : Nat) (j : Nat) (x : AV) (e : (flat ((els.drop l).take m))[j]? = some x) : (flat els)[l * n + j]? = some x:=by
 have hw2 : ∀ e ∈ els.take l,e.cells.length = n:=fun e he=>hw e (List.mem_of_mem_take he)
 have h1 : els = els.take l ++ ((els.drop l).take m ++ (els.drop l).drop m):=by rw [List.take_append_drop,List.take_append_drop]
 have hfl:=zK hw2
 rcases Nat.lt_or_ge els.length l with hl | hl
 ·rw [List.drop_of_length_le (by omega)] at e;simp [flat] at e
 ·have hlen : (flat (els.take l)).length = l * n:=by rw [hfl,List.length_take,Nat.min_eq_left hl]
  rw [h1,zZ,zZ,List.getElem?_append_right (by omega),hlen,show l * n + j - l * n = j by omega,List.getElem?_append_left (List.getElem?_eq_some_iff.1 e).1]
  exact e
theorem qT {els : List AV} {l m : Nat} {x : AV} (hx : x ∈ flat ((els.drop l).take m)) : x ∈ flat els:=by
 obtain ⟨e,he,hx⟩:=List.mem_flatMap.1 hx
 exact List.mem_flatMap.2 ⟨e,List.mem_of_mem_drop (List.mem_of_mem_take he),hx⟩
theorem yP {els : List AV} (h1 : ∀ x ∈ els,x.one = true) : flat els = els:=by
 induction els with
 | nil=>rfl
 | cons a l ih =>
   have ha : a.cells = [a]:=by have:=h1 a (by simp);cases a <;> first | rfl | simp [AV.one] at this
   simp only [flat,List.flatMap_cons,ha] at ih ⊢
   rw [ih (fun x hx=>h1 x (by simp [hx]))];rfl
theorem zay (s : SR P E h β H w) {x : AV} {v : Value} (hx : Rep P h β H x v) {new : List AV} (e : vU H x = some new) {n : Nat} (hw : wide n new = true) :
  (new = [] /\ v = .slice none 0 0) \/ ∃ (a : Addr) (c : Nat) (news : List Value),v = .slice (some a) new.length c /\ news.length = new.length * n /\ (∀ (j : Nat) u,news[j]? = some u -> w.cell? (a.add j) = some u) /\ (∀ u ∈ news,u.oneCell' = true) /\
   (∀ x ∈ flat new,x.one = true) /\ ∃ us : Nat -> Value,(∀ (j : Nat) x,(flat new)[j]? = some x -> news[j]? = some (us j)) /\ ∀ (j : Nat) x,(flat new)[j]? = some x -> Rep P h β H x (us j):=by
 have hww:=fun e he=>(yO hw e he).1
 have hfl:=zK hww
 have key : ∀ (b off : Nat) (c : Array Value) (t : TypeId) (fz : Nat × Nat) (us : Nat -> Value),w.heap[b]? = some (.cells c t fz) -> (∀ (j : Nat) x,(flat new)[j]? = some x -> c[off + j]? = some (us j)) -> (∀ (j : Nat) x,(flat new)[j]? = some x -> Rep P h β H x (us j)) ->
   (∀ x ∈ flat new,x.one = true) -> ∃ news : List Value,news.length = new.length * n /\ (∀ (j : Nat) u,news[j]? = some u -> w.cell? ((⟨b,off,none⟩ : Addr).add j) = some u) /\ (∀ u ∈ news,u.oneCell' = true) /\
   (∀ x ∈ flat new,x.one = true) /\ ∃ us : Nat -> Value,(∀ (j : Nat) x,(flat new)[j]? = some x -> news[j]? = some (us j)) /\ ∀ (j : Nat) x,(flat new)[j]? = some x -> Rep P h β H x (us j):=by
  intro b off c t fz us hb hc hr hone
  have hget : ∀ j,j < (flat new).length -> (flat new)[j]? = some ((flat new).getD j default):=fun j hj=>by rw [List.getD_eq_getElem?_getD,List.getElem?_eq_getElem hj];simp
  refine ⟨(List.range (flat new).length).map us,by simp [hfl],fun j u e=>?_,fun u hu=>?_,hone,us,fun j x e=>?_,hr⟩
  ·have hj : j < (flat new).length:=by have:=(List.getElem?_eq_some_iff.1 e).1;simpa using this
   simp [hj] at e;subst e
   rw [kA,vp hb];exact hc j _ (hget j hj)
  ·simp at hu;obtain ⟨j,hj,rfl⟩:=hu
   exact (hr j _ (hget j hj)).one (hone _ (List.mem_of_getElem? (hget j hj)))
  ·have hj : j < (flat new).length:=(List.getElem?_eq_some_iff.1 e).1
   simp [hj]
 cases hx with
 | slnil=>cases e;exact .inl ⟨rfl,rfl⟩
 | slemp=>cases e;exact .inr ⟨_,_,[],rfl,by simp,by simp,by simp,by simp [flat],fun _=>undef,by simp [flat],by simp [flat]⟩
 | se=>cases e;exact .inr ⟨_,_,[],rfl,by simp,by simp,by simp,by simp [flat],fun _=>undef,by simp [flat],by simp [flat]⟩
 | @sl b off cap c t fz els w' nn us hn hne hb hw' hw0 hone hcap hc hr =>
   cases e
   subst hn
   obtain ⟨news,h1⟩:=key b off c t fz us (s.imm _ _ hb) hc hr hone
   exact .inr ⟨_,_,news,rfl,h1⟩
 | @gr i m v ho hi hv =>
   simp only [vU] at e
   split at e
   ·rename_i t nl els e1
    split at e <;> cases e
    rename_i e2
    have hv':=(hv _ _ _ e1).2 e2
    rcases s.blk i _ e1 with ⟨_,h7,h8⟩ | ⟨_,h7,a,h8⟩ | ⟨_,b,cap,c,h8,h9,h10,h11,h12,h13,h14,h15,h16,us,h17,h18⟩
    ·exact .inl ⟨h7,hv'.trans h8⟩
    ·subst h7;exact .inr ⟨a,0,[],hv'.trans h8,by simp,by simp,by simp,by simp [flat],fun _=>undef,by simp [flat],by simp [flat]⟩
    ·obtain ⟨news,h1⟩:=key b 0 c t (0,0) us h10 (fun j x e=>by rw [Nat.zero_add];exact h17 j x e) h18 h16
     exact .inr ⟨_,_,news,hv'.trans h8,h1⟩
   ·cases e
 | @os i m o q b qq cap hi hnc hc hg _ =>
   simp only [vU] at e
   split at e
   ·rename_i t nl els e1
    split at e <;> cases e
    rename_i e2
    by_cases hz : q = 0
    ·subst hz
     simp only [List.take_zero,List.length_nil]
     exact .inr ⟨_,_,[],rfl,by simp,by simp,by simp,by simp [flat],fun _=>undef,by simp [flat],by simp [flat]⟩
    ·obtain ⟨g1,g2⟩:=hg _ _ _ e1
     obtain ⟨g3,g4,len,cap',g5⟩:=g2 e2.1 hz
     have hlen : ((els.drop o).take q).length = q:=by simp;omega
     rcases s.blk i _ e1 with ⟨_,h7,h8⟩ | ⟨_,h7,a,h8⟩ | ⟨_,b',cap2,c,h8,h9,h10,h11,h12,h13,h14,h15,h16,us,h17,h18⟩
     ·subst h7;simp at hlen;omega
     ·subst h7;simp at hlen;omega
     ·rw [h8] at g5;cases g5
      obtain ⟨news,h1⟩:=key b qq c t (0,0) (fun j=>us (o * sz P t + j)) h10 (fun j x e=>by rw [g4];exact h17 _ x (ku h15 _ _ j x e)) (fun j x e=>h18 _ x (ku h15 _ _ j x e)) (fun x hx=>h16 x (qT hx))
      rw [hlen] at h1 ⊢
      exact .inr ⟨_,_,news,rfl,h1⟩
   ·rename_i cs e1
    split at e <;> cases e
    rename_i e2
    by_cases hz : q = 0
    ·subst hz
     simp only [List.take_zero,List.length_nil]
     exact .inr ⟨_,_,[],rfl,by simp,by simp,by simp,by simp [flat],fun _=>undef,by simp [flat],by simp [flat]⟩
    ·obtain ⟨g1,g2⟩:=hc _ e1 hz
     obtain ⟨b',c,t,h2,h3,h4,h5,us,h6,h7⟩:=s.blk i _ e1
     rw [h2] at g2;cases g2
     have hlen : ((cs.drop o).take q).length = q:=by simp;omega
     have hone' : ∀ x ∈ (cs.drop o).take q,x.one = true:=fun x hx=>h5 x (List.mem_of_mem_drop (List.mem_of_mem_take hx))
     have hget : ∀ (j : Nat) x,((cs.drop o).take q)[j]? = some x -> cs[o + j]? = some x:=by
      intro j x e
      rw [List.getElem?_take] at e
      split at e
      ·rw [List.getElem?_drop] at e;exact e
      ·cases e
     obtain ⟨news,hh⟩:=key b qq c t (0,0) (fun j=>us (o + j)) h3 (fun j x e=>by rw [yP hone'] at e;rw [g1];exact h6 _ x (hget j x e)) (fun j x e=>by rw [yP hone'] at e;exact h7 _ x (hget j x e)) (by rw [yP hone'];exact hone')
     rw [hlen] at hh ⊢
     exact .inr ⟨_,_,news,rfl,hh⟩
   ·cases e
 | _=>cases e
theorem gM {els new : List AV} {c : Array Value} {k : Nat} {tail : List Value} {news : List Value} (hs : zP P h β H (flat els) c) (hlc : (flat els).length <= c.size) (hk : k = (flat els).length)
  (us : Nat -> Value) (h1 : ∀ (j : Nat) x,(flat new)[j]? = some x -> news[j]? = some (us j)) (h2 : ∀ (j : Nat) x,(flat new)[j]? = some x -> Rep P h β H x (us j)) :
  zP P h β H (flat (els ++ new)) (c.toList.take k ++ news ++ tail).toArray:=by
 obtain ⟨vs,a1,a2⟩:=hs
 subst hk
 refine ⟨fun j=>if j < (flat els).length then vs j else us (j - (flat els).length),fun j x e=>?_,fun j x e=>?_⟩
 ·rw [zZ] at e
  rw [List.getElem?_toArray]
  by_cases hj : j < (flat els).length
  ·rw [List.getElem?_append_left hj] at e
   rw [List.append_assoc,List.getElem?_append_left (by simp;omega),List.getElem?_take,if_pos hj]
   simp only [hj,if_true]
   simpa using a1 j x e
  ·rw [List.getElem?_append_right (by omega)] at e
   have h3:=h1 _ x e
   have h4:=(List.getElem?_eq_some_iff.1 h3).1
   have hm : (List.take (flat els).length c.toList).length = (flat els).length:=by simp;omega
   rw [List.append_assoc,List.getElem?_append_right (by omega),hm,List.getElem?_append_left h4]
   simp only [hj,if_false]
   exact h3
 ·rw [zZ] at e
  by_cases hj : j < (flat els).length
  ·rw [List.getElem?_append_left hj] at e
   simp only [hj,if_true];exact a2 j x e
  ·rw [List.getElem?_append_right (by omega)] at e
   simp only [hj,if_false];exact h2 _ x e
theorem evP_L (F : Fits P h β H σ a) : ∀ {l : List (Nat × Operand)} {rs : List (Nat × AV)} {i : Nat} {els : List AV},evP σ l = some rs -> dense i rs = some els ->
  RepL P h β H els (l.map fun x=>a.eval x.2) /\ (l.map fun x=>x.1) = (List.range els.length).map (i + ·)
 | [],rs,i,els,e,d=>by cases e;cases d;exact ⟨.nil,rfl⟩
 | (q,x) :: l,rs,i,els,e,d=>by
   unfold evP at e
   split at e <;> cases e
   rename_i r rs h1 h2
   simp only [dense] at d
   split at d
   ·rename_i hq
    cases hd : dense (i + 1) rs with
    | none=>simp [hd] at d
    | some els' =>
      simp [hd] at d;subst d;subst hq
      obtain ⟨i1,i2⟩:=evP_L F h2 hd
      refine ⟨.cons (F.ev h1) i1,?_⟩
      simp only [List.map_cons,i2,List.length_cons,List.range_succ_eq_map,List.map_map,Nat.add_zero]
      congr 1
      apply List.map_congr_left;intro j _;simp;omega
   ·cases d
theorem zat (n : Nat) : ∀ (vs : List Value) (i : Nat) (cells : Array Value),(∀ v ∈ vs,v.cells.size = n) -> (i + vs.length) * n <= cells.size ->
  ∃ cells',Instr.fill (fun i=>some (i * n,n)) cells (((List.range vs.length).map (i + ·)).zip vs) = some cells' /\ cells'.size = cells.size /\
   cells'.toList = cells.toList.take (i * n) ++ vs.flatMap (fun v=>v.cells.toList) ++ cells.toList.drop ((i + vs.length) * n)
 | [],i,cells,_,_=>⟨cells,rfl,rfl,by simp⟩
 | v :: vs,i,cells,hv,hl=>by
   have hvn : v.cells.size = n:=hv v (by simp)
   have hs1 : (i + (v :: vs).length) * n = i * n + n + vs.length * n:=by simp [Nat.add_mul];omega
   let cells1 : Array Value:=v.cells.zipIdx.foldl (fun cs (x : Value × Nat)=>cs.setIfInBounds (i * n + x.2) x.1) cells
   have q : cells1 = (v.cells.toList.zipIdx 0).foldl (fun cs (x : Value × Nat)=>cs.setIfInBounds (i * n + x.2) x.1) cells:=by
    simp only [cells1];rw [<- Array.foldl_toList,Array.toList_zipIdx]
   have qs : cells1.size = cells.size:=by rw [q];exact jQ _ _ _ _
   have ql : cells1.toList = cells.toList.take (i * n) ++ v.cells.toList ++ cells.toList.drop (i * n + n):=by
    apply List.ext_getElem?
    intro k
    by_cases hk : k < cells.size
    ·rw [Array.getElem?_toList,q,j6 (i * n) _ 0 cells (by simp [hvn];omega) k hk]
     simp only [Array.length_toList,hvn,Nat.add_zero]
     by_cases h1 : k < i * n
     ·rw [if_neg (by omega),List.append_assoc,List.getElem?_append_left (by simp;omega),List.getElem?_take,if_pos h1,Array.getElem?_toList]
     ·by_cases h2 : k < i * n + n
      ·rw [if_pos ⟨by omega,h2⟩,List.append_assoc,List.getElem?_append_right (by simp;omega),List.getElem?_append_left (by simp [hvn];omega)]
       congr 1;simp;omega
      ·rw [if_neg (by omega),List.getElem?_append_right (by simp [hvn];omega),List.getElem?_drop,Array.getElem?_toList]
       congr 1;simp [hvn];omega
    ·rw [List.getElem?_eq_none (by simp [qs];omega),List.getElem?_eq_none (by simp [hvn];omega)]
   obtain ⟨cells',e1,e2,e3⟩:=zat n vs (i + 1) cells1 (fun x hx=>hv x (by simp [hx])) (by rw [qs];simp [Nat.add_mul] at hl ⊢;omega)
   refine ⟨cells',?_,e2.trans qs,?_⟩
   ·have hz : ((List.range (v :: vs).length).map (i + ·)).zip (v :: vs) = (i,v) :: ((List.range vs.length).map (i + 1 + ·)).zip vs:=by
     simp only [List.length_cons,List.range_succ_eq_map,List.map_cons,List.map_map,List.zip_cons_cons,Nat.add_zero]
     congr 3
     funext j;simp only [Function.comp];omega
    rw [hz]
    simp only [Instr.fill]
    rw [if_neg (by simp only [ne_eq,Bool.or_eq_true,decide_eq_true_eq];omega)]
    exact e1
   ·rw [e3,ql]
    have hm : ((i + 1) * n) = i * n + n:=Nat.succ_mul i n
    have hcl : cells.toList.length = cells.size:=by simp
    rw [hm,List.take_append,List.take_append,List.take_of_length_le (l:=List.take (i * n) cells.toList) (by simp;omega)]
    have ht : (List.take (i * n) cells.toList).length = i * n:=by simp;omega
    have hvl : v.cells.toList.length = n:=by simp [hvn]
    rw [ht,show i * n + n - i * n = n by omega,List.take_of_length_le (l:=v.cells.toList) (by omega)]
    rw [show i * n + n - (List.take (i * n) cells.toList ++ v.cells.toList).length = 0 by simp [hvl];omega,List.take_zero,List.append_nil]
    rw [List.drop_append,List.drop_of_length_le (l:=List.take (i * n) cells.toList ++ v.cells.toList) (by simp [hvl,Nat.add_mul];omega),List.nil_append,List.drop_drop]
    simp only [List.flatMap_cons,List.append_assoc]
    congr 4
    simp only [List.length_append,ht,hvl,List.length_cons,Nat.add_mul];omega
theorem zaP (s : SR P E h β H w) (F : Fits P h β H σ a) {t : TypeId} {len : Nat} {l : List (Nat × Operand)} {rs : List (Nat × AV)} (e1 : evP σ l = some rs) {x : TypeId × Nat × Nat} (e2 : slE P t = some x)
  {els : List AV} (e3 : dense 0 rs = some els) (e4 : els.length = len) (e5 : len * x.2.1 <= 16777216) (e6 : wide x.2.1 els = true) :
  ∃ cells : Array Value,(Instr.buildSlice t len (l.map fun x=>(x.1,a.eval x.2)).toArray).run P w = .ok (.slice (some ⟨w.heap.size,0,none⟩) len len) (w.alloc (.cells cells x.1)) /\ cells.size = len * x.2.1 /\
   (∀ y ∈ flat els,y.one = true) /\ zP P h β H (flat els) cells:=by
 obtain ⟨el,i,z,h1,h2,h3,h4,h5,_,rfl⟩:=jJ e2
 obtain ⟨i',zv,z1,z2,z3⟩:=jO h3
 rw [h2] at z1;cases z1
 obtain ⟨r1,r2⟩:=evP_L F e1 e3
 obtain ⟨cs,c1,c2,c3,c4,us,c5,c6⟩:=rows_ok s r1 e6
 have hw : ∀ v ∈ l.map (fun x=>a.eval x.2),v.cells.size = i.size:=by
  intro v hv
  obtain ⟨j,hj,he⟩:=List.getElem_of_mem hv
  have hx : els[j]? = some (els[j]'(by rw [<- r1.1];exact hj)):=List.getElem?_eq_getElem _
  obtain ⟨u,q1,q2⟩:=r1.2 j _ hx
  rw [List.getElem?_eq_getElem hj,he] at q1;cases q1
  obtain ⟨q3,q4⟩:=yO e6 _ (List.getElem_mem _)
  exact (yT s q2 q4).1.trans q3
 subst e4
 by_cases hnil : els = []
 ·subst hnil
  have hl0 : l = []:=by have:=r1.1;simpa using this
  subst hl0
  refine ⟨#[],?_,by simp,by simp [flat],fun _=>undef,by simp [flat],by simp [flat]⟩
  simp [Instr.buildSlice,run_underlying h1,Go.sizeOf,typeInfo,h2,newRow,Instr.fill,Array.range_zero']
 ·have hpos : 0 < els.length:=List.length_pos_iff.2 hnil
  obtain ⟨cells',f1,f2,f3⟩:=zat i.size (l.map fun x=>a.eval x.2) 0 ((Array.range (els.length * i.size)).map (zv.cells[· % zv.cells.size]!)) hw (by rw [r1.1];simp)
  have hlist : cells'.toList = cs:=by
   rw [f3,c4,r1.1];simp
  have hz : l.map (fun x=>(x.1,a.eval x.2)) = ((List.range (l.map fun x=>a.eval x.2).length).map (0 + ·)).zip (l.map fun x=>a.eval x.2):=by
   have : l.map (fun x=>(x.1,a.eval x.2)) = (l.map (fun x=>x.1)).zip (l.map fun x=>a.eval x.2):=by
    rw [List.zip_map']
   rw [this,r2,r1.1]
  refine ⟨cells',?_,by rw [<- Array.length_toList,hlist,c1],c2,us,fun j x e=>?_,c6⟩
  ·refine run_buildSlice w t el els.length _ cells' i zv h1 h2 z2 (by simpa using e5) (by have:=Nat.mul_pos hpos h5;omega) ?_
   rw [hz];exact f1
  ·have:=c5 j x e;rw [<- hlist] at this;simpa using this
theorem v5 (s : SR P E h β H w) (F : Fits P h β H σ a) {own : Bool} {t : TypeId} {len : Nat} {l : List (Nat × Operand)} {rs : List (Nat × AV)} (e1 : evP σ l = some rs) {k : AV -> List Blk -> Prop} (hk : jv P own t len rs H k) :
  zl P E h β H (Instr.buildSlice t len (l.map fun x=>(x.1,a.eval x.2)).toArray) w k:=by
 obtain ⟨x,h1,hk⟩:=zd hk
 obtain ⟨els,h2,⟨h3,h4,h5⟩,hk⟩:=zd hk
 obtain ⟨cells,r1,r2,r3,r4⟩:=zaP s F e1 h1 h2 h3 h4 h5
 obtain ⟨el,i,z,q1,q2,q3,q4,q5,_,rfl⟩:=jJ h1
 have hsz : sz P el = i.size:=by simp [sz,q2]
 have hww : ∀ e ∈ els,e.cells.length = i.size:=fun e he=>(yO h5 e he).1
 subst h3
 split at hk
 ·obtain ⟨s',X⟩:=s.push (w':=w.alloc (.cells cells el)) s.env (fun k hk=>Below.heap_alloc _ _ _ hk) (.slice (some ⟨w.heap.size,0,none⟩) els.length els.length) (.grow el false els)
   (by intro b hb;simp [anchor] at hb;omega)
   (fun X=>by
    by_cases hn : els = []
    ·subst hn;exact .inr (.inl ⟨rfl,rfl,⟨w.heap.size,0,none⟩,by simp [upb]⟩)
    ·refine .inr (.inr ⟨rfl,w.heap.size,els.length,cells,by simp [upb],List.length_pos_iff.2 hn,heap_alloc_new w _,Nat.le_refl _,?_,by rw [hsz];exact r2,by rw [hsz];exact q5,by rw [hsz];exact hww,r3,r4.ext X⟩)
     have : els.length <= els.length * i.size:=Nat.le_mul_of_pos_right _ q5
     simp only [maxLen];simp only at h4;omega)
  refine ⟨_,_,_,_,h,_,r1,hk,X,s',.gr rfl (.push rfl) fun t' nl els' e=>?_⟩
  simp at e;obtain ⟨_,_,rfl⟩:=e;exact ⟨Nat.le_refl _,fun _=>by simp [upb]⟩
 ·split at hk
  ·rename_i h0
   obtain ⟨s',X⟩:=s.alloc_imm (.cells cells el)
   refine ⟨_,_,_,H,_,β,r1,hk,X,s',?_⟩
   rw [h0];exact .se
  ·rename_i h0
   obtain ⟨s',X⟩:=s.alloc_imm (.cells cells el)
   obtain ⟨us,r5,r6⟩:=r4
   exact ⟨_,_,_,H,_,β,r1,hk,X,s',.sl (b:=w.heap.size) (off:=0) (c:=cells) (t:=el) (fz:=(0,0)) us rfl (fun e=>h0 (by rw [e];rfl)) (by simp) hww q5 r3 (Nat.le_refl _) (fun j x e=>by rw [Nat.zero_add];exact r5 j x e) (fun j x e=>X.rep (r6 j x e))⟩
theorem y7 (z : AV) (n : Nat) (hz : z.cells.length = n) (hn : 0 < n) (l j : Nat) (hj : j < l * n) : (flat (List.replicate l z))[j]? = z.cells[j % n]?:=by
 have hw : ∀ e ∈ List.replicate l z,e.cells.length = n:=fun e he=>by rw [List.eq_of_mem_replicate he];exact hz
 have h1 : j / n < l:=Nat.div_lt_of_lt_mul (by rw [Nat.mul_comm];exact hj)
 have h2 : j % n < n:=Nat.mod_lt _ hn
 have:=vf hw (j / n) (j % n) z (z.cells[j % n]'(by omega)) (by simp [h1]) (List.getElem?_eq_getElem _)
 rw [Nat.div_add_mod' j n] at this
 rw [this];exact (List.getElem?_eq_getElem _).symm
theorem qB (s : SR P E h β H w) {t : TypeId} {l c : AV} {lv cv : Value} (hl : Rep P h β H l lv) (hc : Rep P h β H c cv) {k : AV -> List Blk -> Prop} (hk : k0 P t l c H k) :
  zl P E h β H (Instr.makeSlice t lv cv) w k:=by
 unfold k0 at hk
 split at hk
 case h_2=>exact hk.elim
 rename_i kl l kc c
 cases z9 hl;cases z9 hc
 obtain ⟨x,h1,hk⟩:=zd hk
 obtain ⟨z,h2,⟨b1,b2,b3,b4⟩,hk⟩:=zd hk
 obtain ⟨el,i,z',q1,q2,q3,q4,q5,htup,rfl⟩:=jJ h1
 rw [q3] at h2;cases h2
 obtain ⟨i',zv,z1,z2,z3⟩:=jO q3
 rw [q2] at z1;cases z1
 have hzr:=k5 (P:=P) (h:=h) (β:=β) (H:=H) z3
 obtain ⟨g1,g2,g3,us,g4,g5⟩:=yT s hzr htup
 have hsz : sz P el = i.size:=by simp [sz,q2]
 have b3' : (i.bytes : Int) * c <= 281474976710656:=by rw [Int.mul_comm];simp only at b3;omega
 have hr:=run_make (P:=P) w t el i zv q1 q2 z2 kl kc l c b1 b2 b3' (by omega)
 have hcn : l.toNat <= c.toNat:=by omega
 have hww : ∀ e ∈ List.replicate l.toNat z,e.cells.length = i.size:=fun e he=>by rw [List.eq_of_mem_replicate he];exact q4
 have hfl:=zK hww
 rw [List.length_replicate] at hfl
 have hmul : l.toNat * i.size <= c.toNat * i.size:=Nat.mul_le_mul_right _ hcn
 have hcells : ∀ (j : Nat) x,(flat (List.replicate l.toNat z))[j]? = some x -> (madeCells zv.cells (c.toNat * i.size))[j]? = some (us (j % i.size)) /\ Rep P h β H x (us (j % i.size)):=by
  intro j x e
  have hj : j < l.toNat * i.size:=by have:=(List.getElem?_eq_some_iff.1 e).1;omega
  rw [y7 z i.size q4 q5 _ _ hj] at e
  have h3:=g4 _ x e
  refine ⟨?_,g5 _ x e⟩
  have hm : j % i.size < zv.cells.size:=(Array.getElem?_eq_some_iff.1 h3).1
  unfold madeCells
  rw [Array.getElem?_map,Array.getElem?_range,if_pos (by omega)]
  simp only [Option.map_some]
  rw [show zv.cells.size = i.size from g1.trans q4,getElem!_pos zv.cells (j % i.size) hm]
  rw [Array.getElem?_eq_getElem hm] at h3;exact h3
 have hblk : ∀ {β' : Nat -> Value} {H' : List Blk} {k : Nat},β' k = .slice (some ⟨w.heap.size,0,none⟩) l.toNat c.toNat -> Ext h β H h β' H' -> jN P h β' H' (w.alloc (.cells (madeCells zv.cells (c.toNat * i.size)) el)).heap k (.grow el false (List.replicate l.toNat z)):=by
  intro β' H' k hk X
  by_cases hn : c.toNat = 0
  ·have hl0 : l.toNat = 0:=by omega
   exact .inr (.inl ⟨rfl,by simp [hl0],⟨w.heap.size,0,none⟩,by simp [hk,hl0,hn]⟩)
  ·refine .inr (.inr ⟨rfl,w.heap.size,c.toNat,_,by simp [hk],by omega,heap_alloc_new w _,by simpa using hcn,?_,by rw [hsz];exact size_madeCells _ _,by rw [hsz];exact q5,by rw [hsz];exact hww,?_,fun j=>us (j % i.size),fun j x e=>(hcells j x e).1,fun j x e=>X.rep (hcells j x e).2⟩)
   ·simp only [maxLen];omega
   ·intro x hx
    obtain ⟨j,hj,he⟩:=List.getElem_of_mem hx
    have e : (flat (List.replicate l.toNat z))[j]? = some x:=by rw [List.getElem?_eq_getElem hj,he]
    rw [y7 z i.size q4 q5 _ _ (by omega)] at e
    exact g2 x (List.mem_of_getElem? e)
 rcases hk with hk | ⟨i0,hi0,hk⟩
 ·obtain ⟨s',X⟩:=s.push (w':=w.alloc (.cells (madeCells zv.cells (c.toNat * i.size)) el)) s.env (fun k hk=>Below.heap_alloc _ _ _ hk) (.slice (some ⟨w.heap.size,0,none⟩) l.toNat c.toNat) (.grow el false (List.replicate l.toNat z))
   (by intro b hb;simp [anchor] at hb;omega) (fun X=>hblk (by simp [upb]) X)
  refine ⟨_,_,_,_,h,_,hr,hk,X,s',.gr rfl (.push rfl) fun t' nl els' e=>?_⟩
  simp at e;obtain ⟨_,_,rfl⟩:=e;exact ⟨by simp,fun _=>by simp [upb]⟩
 ·have hlt:=(List.getElem?_eq_some_iff.1 hi0).1
  obtain ⟨s',X⟩:=s.modify (β':=upb β i0 (.slice (some ⟨w.heap.size,0,none⟩) l.toNat c.toNat)) (w':=w.alloc (.cells (madeCells zv.cells (c.toNat * i.size)) el)) (x':=.grow el false (List.replicate l.toNat z)) hi0 (fun j hj=>by simp [upb,hj]) trivial s.env
   (fun k hk _=>Below.heap_alloc _ _ _ hk) (fun b hb=>by simp [upb,anchor] at hb;right;omega) (fun X=>hblk (by simp [upb]) X)
  refine ⟨_,_,_,_,h,_,hr,hk,X,s',.gr rfl (.set hlt rfl) fun t' nl els' e=>?_⟩
  simp [hlt] at e;obtain ⟨_,_,rfl⟩:=e;exact ⟨by simp,fun _=>by simp [upb]⟩
theorem fW (s : SR P E h β H w) {el : TypeId} {i : TypeInfo} (hi : P.info? el = some i) (h0 : 0 < i.size) {nl : Bool} {new : List AV} (hw : wide i.size new = true) (hone : ∀ x ∈ flat new,x.one = true) {news : List Value}
  (us : Nat -> Value) (h1 : ∀ (j : Nat) x,(flat new)[j]? = some x -> news[j]? = some (us j)) (h2 : ∀ (j : Nat) x,(flat new)[j]? = some x -> Rep P h β H x (us j))
  (hne : new ≠ []) {cap : Nat} (hc1 : new.length <= cap) (hc2 : cap <= maxLen) {c : Array Value} (hc3 : c.size = cap * i.size) (hc4 : ∃ tail,c.toList = news ++ tail) {k : AV -> List Blk -> Prop} {sem : Sem Value}
  (hr : sem.run P w = .ok (.slice (some ⟨w.heap.size,0,none⟩) new.length cap) (w.drew.alloc (.cells c el))) (hk : k (.gr H.length new.length) (H ++ [.grow el nl new])) (hnl : nl = false) : zl P E h β H sem w k:=by
 have hsz : sz P el = i.size:=by simp [sz,hi]
 have hpos : 0 < new.length:=List.length_pos_iff.2 hne
 obtain ⟨tail,hc4⟩:=hc4
 obtain ⟨s',X⟩:=s.push (w':=w.drew.alloc (.cells c el)) s.env (fun k hk=>Below.heap_alloc w.drew _ _ hk) (.slice (some ⟨w.heap.size,0,none⟩) new.length cap) (.grow el nl new)
  (by intro b hb;simp [anchor] at hb;omega)
  (fun X=>.inr (.inr ⟨hnl,w.heap.size,cap,c,by simp [upb],by omega,heap_alloc_new w.drew _,hc1,hc2,by rw [hsz];exact hc3,by rw [hsz];exact h0,by rw [hsz];exact fun e he=>(yO hw e he).1,hone,
   us,fun j x e=>by
    have h3:=h1 j x e
    rw [<- Array.getElem?_toList,hc4,List.getElem?_append_left (List.getElem?_eq_some_iff.1 h3).1];exact h3,fun j x e=>X.rep (h2 j x e)⟩))
 refine ⟨_,_,_,_,h,_,hr,hk,X,s',.gr rfl (.push rfl) fun t' nl els' e=>?_⟩
 simp at e;obtain ⟨_,_,rfl⟩:=e;exact ⟨by simp,fun _=>by simp [upb]⟩
theorem wW (s : SR P E h β H w) {t ty : TypeId} {d x : AV} {dv v : Value} (hd : Rep P h β H d dv) (hx : Rep P h β H x v) {k : AV -> List Blk -> Prop} (hk : wy P t d x H k) :
  zl P E h β H (Builtin.append_ #[t,t] ty #[dv,v]) w k:=by
 obtain ⟨y,h1,hk1⟩:=zd hk
 obtain ⟨new,h2,hw,hk2⟩:=zd hk1
 clear hk hk1
 obtain ⟨el,i,z,q1,q2,q3,q4,q5,q6,rfl⟩:=jJ h1
 obtain ⟨i',zv,z1,z2,z3⟩:=jO q3
 rw [q2] at z1;cases z1
 have hsz : sz P el = i.size:=by simp [sz,q2]
 have hzr:=k5 (P:=P) (h:=h) (β:=β) (H:=H) z3
 have hzs : zv.cells.size = i.size:=(yT s hzr q6).1.trans q4
 simp only at hw
 have src:=zay s hx h2 hw
 -- a source of nothing: nothing is done
 have none_run : ∀ (o : Option Addr) (n c : Nat),n <= c -> v = .slice none 0 0 -> (Builtin.append_ #[t,t] ty #[.slice o n c,v]).run P w = .ok (.slice o n c) w:=by
  intro o n c hnc hv
  subst hv
  cases o <;> simp [Builtin.append_,run_underlying q1,Go.sizeOf,typeInfo,q2,Builtin.lenOf,Builtin.firstCells,hnc,storeCells]
 have none_run' : ∀ (o : Option Addr) (n c : Nat) (a : Addr) (c' : Nat),n <= c -> v = .slice (some a) 0 c' -> (Builtin.append_ #[t,t] ty #[.slice o n c,v]).run P w = .ok (.slice o n c) w:=by
  intro o n c a c' hnc hv
  subst hv
  cases o <;> simp [Builtin.append_,run_underlying q1,Go.sizeOf,typeInfo,q2,Builtin.lenOf,Builtin.firstCells,loadCells,loadCellsFrom,hnc,storeCells]
 have hcapsize : ∀ (need cap : Nat) (news : List Value),news.length = need * i.size -> need <= cap -> (news.toArray ++ Builtin.zeroCells zv.cells (cap - need)).size = cap * i.size:=by
  intro need cap news hl hle
  simp only [Array.size_append,List.size_toArray,size_zeroCells,hzs,hl,<- Nat.add_mul];congr 1;omega
 split at hk2
 ·-- onto nil
  obtain ⟨⟨b1,b2⟩,hk⟩:=hk2
  simp only at b1
  cases hd
  by_cases hne : new = []
  ·subst hne
   have hr : (Builtin.append_ #[t,t] ty #[.slice none 0 0,v]).run P w = .ok (.slice none 0 0) w:=by
    rcases src with ⟨_,hv⟩ | ⟨a,c,news,hv,_⟩
    ·exact none_run none 0 0 (Nat.le_refl _) hv
    ·exact none_run' none 0 0 a c (Nat.le_refl _) hv
   obtain ⟨s',X⟩:=s.push (w':=w) s.env (fun _ _=>rfl) (.slice none 0 0) (.grow el true []) (by intro b hb;simp [anchor] at hb) (fun _=>.inl ⟨rfl,rfl,by simp [upb]⟩)
   refine ⟨_,_,_,_,h,_,hr,hk,X,s',.gr rfl (.push rfl) fun t' nl els' e=>?_⟩
   simp at e;obtain ⟨_,_,rfl⟩:=e;exact ⟨by simp,fun _=>by simp [upb]⟩
  ·rcases src with ⟨hv,_⟩ | ⟨a,c,news,rfl,hl,hcell,hone',hone,us,u1,u2⟩
   ·exact absurd hv hne
   ·have hpos : 0 < new.length:=List.length_pos_iff.2 hne
    have h48 : new.length * i.bytes <= 140737488355328:=by have:=b1;rw [<- Int.natCast_mul] at this;omega
    have hr:=run_append_nil (P:=P) w t ty el i zv q1 q2 z2 a new.length c news hl hcell hpos (by omega) (by omega)
    have hge:=grownCap_ge w new.length 0 el
    have hle:=grownCap_le_maxLen w new.length 0 el (by simp only [maxLen];omega)
    refine fW s q2 q5 (nl:=new.isEmpty) hw hone us u1 u2 hne hge hle (hcapsize _ _ news hl hge) ⟨(Builtin.zeroCells zv.cells (grownCap w new.length 0 el - new.length)).toList,by simp⟩ hr hk (by cases new <;> simp at hne ⊢)
 ·-- onto a slice without room
  obtain ⟨⟨b1,b2⟩,hk⟩:=hk2
  simp only at b1
  cases hd
  rename_i a0
  by_cases hne : new = []
  ·subst hne
   have hr : (Builtin.append_ #[t,t] ty #[.slice (some a0) 0 0,v]).run P w = .ok (.slice (some a0) 0 0) w:=by
    rcases src with ⟨_,hv⟩ | ⟨a,c,news,hv,_⟩
    ·exact none_run (some a0) 0 0 (Nat.le_refl _) hv
    ·exact none_run' (some a0) 0 0 a c (Nat.le_refl _) hv
   obtain ⟨s',X⟩:=s.push (w':=w) s.env (fun _ _=>rfl) (.slice (some a0) 0 0) (.grow el false []) (by intro b hb;simp [anchor] at hb) (fun _=>.inr (.inl ⟨rfl,rfl,a0,by simp [upb]⟩))
   refine ⟨_,_,_,_,h,_,hr,hk,X,s',.gr rfl (.push rfl) fun t' nl els' e=>?_⟩
   simp at e;obtain ⟨_,_,rfl⟩:=e;exact ⟨by simp,fun _=>by simp [upb]⟩
  ·rcases src with ⟨hv,_⟩ | ⟨a,c,news,rfl,hl,hcell,hone',hone,us,u1,u2⟩
   ·exact absurd hv hne
   ·have hpos : 0 < new.length:=List.length_pos_iff.2 hne
    have h48 : (0 + new.length) * i.bytes <= 140737488355328:=by have:=b1;rw [<- Int.natCast_mul] at this;rw [Nat.zero_add];omega
    have hr:=run_append_grow (P:=P) w t ty el i zv q1 q2 z2 a0 0 0 [] (by simp) (by simp) a new.length c news hl hcell (by omega) (by omega) (growslice_fits (by omega) h48)
    simp only [Nat.zero_add,Array.empty_append] at hr
    have hge:=grownCap_ge w new.length 0 el
    have hle:=grownCap_le_maxLen w new.length 0 el (by simp only [maxLen];omega)
    exact fW s q2 q5 (nl:=false) hw hone us u1 u2 hne hge hle (hcapsize _ _ news hl hge) ⟨(Builtin.zeroCells zv.cells (grownCap w new.length 0 el - new.length)).toList,by simp⟩ hr hk rfl
 ·-- onto a row of one's own
  rename_i ii n
  split at hk2
  case h_2=>exact hk2.elim
  rename_i te nl els e1
  obtain ⟨⟨hte,b2,b3,b4⟩,hk⟩:=hk2
  have hte' : el = te:=hte.symm
  clear hte
  subst hte'
  simp only at b3
  subst b2
  have hlt : ii < H.length:=(List.getElem?_eq_some_iff.1 e1).1
  have b3' : (els.length + new.length) * i.bytes <= 140737488355328:=by rw [<- Int.natCast_mul] at b3;omega
  cases hd with
  | gr ho hii hv =>
    have hdv:=(hv _ _ _ e1).2 rfl
    subst hdv
    have hflat_new:=fun e he=>(yO hw e he).1
    -- nothing more
    have stay : new = [] -> (Builtin.append_ #[t,t] ty #[β ii,v]).run P w = .ok (β ii) w -> zl P E h β H (Builtin.append_ #[t,t] ty #[β ii,v]) w k:=by
     intro hn hr
     subst hn
     have hH : H.set ii (.grow el (nl && true) (els ++ [])) = H:=by
      rw [Bool.and_true,List.append_nil]
      have:=(List.getElem?_eq_some_iff.1 e1).2
      rw [<- this];exact List.set_getElem_self hlt
     simp only [List.isEmpty_nil,hH] at hk
     exact zl.pure s hr (.gr ho hii fun t' nl' els' e=>by rw [e1] at e;cases e;exact ⟨Nat.le_refl _,fun _=>rfl⟩) hk
    -- a new row
    have newrow : ∀ (old : List Value) (cap : Nat) (c : Array Value),new ≠ [] -> old.length = els.length * i.size -> els.length + new.length <= cap -> cap <= maxLen -> c.size = cap * i.size ->
      (∀ x ∈ flat (els ++ new),x.one = true) -> (∀ e ∈ els ++ new,e.cells.length = i.size) -> zP P h β H (flat (els ++ new)) c ->
      (Builtin.append_ #[t,t] ty #[β ii,v]).run P w = .ok (.slice (some ⟨w.heap.size,0,none⟩) (els.length + new.length) cap) (w.drew.alloc (.cells c el)) -> zl P E h β H (Builtin.append_ #[t,t] ty #[β ii,v]) w k:=by
     intro old cap c hne hol hc1 hc2 hc3 hone hww hcells hr
     have hpos : 0 < new.length:=List.length_pos_iff.2 hne
     have hemp : new.isEmpty = false:=by cases new <;> simp at hne ⊢
     rw [hemp,Bool.and_false] at hk
     obtain ⟨s',X⟩:=s.modify (β':=upb β ii (.slice (some ⟨w.heap.size,0,none⟩) (els.length + new.length) cap)) (w':=w.drew.alloc (.cells c el)) (x':=.grow el false (els ++ new)) e1
      (fun j hj=>by simp [upb,hj]) (.inr ⟨_,_,rfl,by simp,fun e=>by simp at e;exact absurd e hne⟩) s.env (fun k hk _=>Below.heap_alloc w.drew _ _ hk)
      (fun b hb=>.inr (by simp [upb,anchor] at hb;omega))
      (fun X=>.inr (.inr ⟨rfl,w.heap.size,cap,c,by simp [upb],by omega,heap_alloc_new w.drew _,by simpa using hc1,hc2,by rw [hsz];exact hc3,by rw [hsz];exact q5,by rw [hsz];exact hww,hone,hcells.ext X⟩))
     refine ⟨_,_,_,_,h,_,hr,hk,X,s',.gr rfl (.set hlt rfl) fun t' nl' els' e=>?_⟩
     simp [hlt] at e;obtain ⟨_,_,rfl⟩:=e;exact ⟨by simp,fun _=>by simp [upb]⟩
    rcases s.blk ii _ e1 with ⟨h6,h7,h8⟩ | ⟨h6,h7,a0,h8⟩ | ⟨h6,b,cap,c,h8,h9,h10,h11,h12,h13,h14,h15,h16,h17⟩
    ·-- nil so far
     subst h7
     by_cases hne : new = []
     ·refine stay hne ?_
      rw [h8]
      rcases src with ⟨_,hv⟩ | ⟨a,c,news,hv,_⟩
      ·exact none_run none 0 0 (Nat.le_refl _) hv
      ·subst hne;exact none_run' none 0 0 a c (Nat.le_refl _) hv
     ·rcases src with ⟨hv,_⟩ | ⟨a,c,news,rfl,hl,hcell,hone',hone,us,u1,u2⟩
      ·exact absurd hv hne
      ·have hpos : 0 < new.length:=List.length_pos_iff.2 hne
       simp only [List.length_nil,Nat.zero_add] at b3' b4 ⊢
       have hr:=run_append_nil (P:=P) w t ty el i zv q1 q2 z2 a new.length c news hl hcell hpos (by omega) (by omega)
       have hge:=grownCap_ge w new.length 0 el
       have hle:=grownCap_le_maxLen w new.length 0 el (by simp only [maxLen];omega)
       refine newrow [] _ _ hne (by simp) (by simpa using hge) hle (hcapsize _ _ news hl hge) (by simpa using hone) (by simpa using hflat_new) ⟨us,fun j x e=>?_,fun j x e=>u2 j x (by simpa using e)⟩ (by rw [h8];simpa using hr)
       have h3:=u1 j x (by simpa using e)
       rw [Array.getElem?_append_left (by simpa using (List.getElem?_eq_some_iff.1 h3).1)];simpa using h3
    ·-- empty, without room
     subst h7
     by_cases hne : new = []
     ·refine stay hne ?_
      rw [h8]
      rcases src with ⟨_,hv⟩ | ⟨a,c,news,hv,_⟩
      ·exact none_run (some a0) 0 0 (Nat.le_refl _) hv
      ·subst hne;exact none_run' (some a0) 0 0 a c (Nat.le_refl _) hv
     ·rcases src with ⟨hv,_⟩ | ⟨a,c,news,rfl,hl,hcell,hone',hone,us,u1,u2⟩
      ·exact absurd hv hne
      ·have hpos : 0 < new.length:=List.length_pos_iff.2 hne
       simp only [List.length_nil,Nat.zero_add] at b3' b4 ⊢
       have hr:=run_append_grow (P:=P) w t ty el i zv q1 q2 z2 a0 0 0 [] (by simp) (by simp) a new.length c news hl hcell (by omega) (by omega) (growslice_fits (by omega) (by simpa using b3'))
       simp only [Nat.zero_add,Array.empty_append] at hr
       have hge:=grownCap_ge w new.length 0 el
       have hle:=grownCap_le_maxLen w new.length 0 el (by simp only [maxLen];omega)
       refine newrow [] _ _ hne (by simp) (by simpa using hge) hle (hcapsize _ _ news hl hge) (by simpa using hone) (by simpa using hflat_new) ⟨us,fun j x e=>?_,fun j x e=>u2 j x (by simpa using e)⟩ (by rw [h8];simpa using hr)
       have h3:=u1 j x (by simpa using e)
       rw [Array.getElem?_append_left (by simpa using (List.getElem?_eq_some_iff.1 h3).1)];simpa using h3
    ·-- a row that is there
     rw [hsz] at h13 h14 h15
     have hfl:=zK h15
     have hmul : els.length * i.size <= cap * i.size:=Nat.mul_le_mul_right _ h11
     have hwwall : ∀ e ∈ els ++ new,e.cells.length = i.size:=fun e he=>by rcases List.mem_append.1 he with he | he;exact h15 e he;exact hflat_new e he
     by_cases hne : new = []
     ·refine stay hne ?_
      rw [h8]
      rcases src with ⟨_,hv⟩ | ⟨a,c',news,hv,_⟩
      ·exact none_run (some ⟨b,0,none⟩) _ _ h11 hv
      ·subst hne;exact none_run' (some ⟨b,0,none⟩) _ _ a c' h11 hv
     ·rcases src with ⟨hv,_⟩ | ⟨a,c',news,rfl,hl,hcell,hone',hone,us,u1,u2⟩
      ·exact absurd hv hne
      ·have hpos : 0 < new.length:=List.length_pos_iff.2 hne
       have honeall : ∀ x ∈ flat (els ++ new),x.one = true:=fun x hx=>by rw [zZ] at hx;rcases List.mem_append.1 hx with hx | hx;exact h16 x hx;exact hone x hx
       by_cases hroom : els.length + new.length <= cap
       ·have hfit : els.length * i.size + news.length <= c.size:=by rw [hl,h13,<- Nat.add_mul];exact Nat.mul_le_mul_right _ hroom
        have hr:=run_append_room (P:=P) w t ty el i q1 q2 b els.length cap c h10 a new.length c' news hl hcell hone' hroom hfit
        have hemp : new.isEmpty = false:=by cases new <;> simp at hne ⊢
        rw [hemp,Bool.and_false] at hk
        have hbo : blkOf β H ii = some b:=by simp [blkOf,e1,h8,anchor];omega
        obtain ⟨s',X⟩:=s.modify (β':=upb β ii (.slice (some ⟨b,0,none⟩) (els.length + new.length) cap)) (w':=w.setRow b (c.toList.take (els.length * i.size) ++ news ++ c.toList.drop (els.length * i.size + news.length)).toArray) (x':=.grow el false (els ++ new)) e1
         (fun j hj=>by simp [upb,hj]) (.inr ⟨_,_,rfl,by simp,fun e=>by simp at e;exact absurd e hne⟩) ((jD _ _ _).trans s.env) (fun k _ hn=>setRow_other _ _ _ _ (fun e=>hn (by rw [hbo,e])))
         (fun b0 hb=>.inl (by rw [hbo];simp [upb,anchor] at hb;rw [hb.2]))
         (fun X=>.inr (.inr ⟨rfl,b,cap,_,by simp [upb],h9,setRow_heap w b c _ el _ h10,by simpa using hroom,h12,by
          rw [hsz,<- h13]
          simp only [List.size_toArray,List.length_append,List.length_take,List.length_drop,Array.length_toList];omega,by rw [hsz];exact q5,by rw [hsz];exact hwwall,honeall,
          gM (h17.ext X) (by omega) hfl.symm us u1 (fun j x e=>X.rep (u2 j x e))⟩))
        refine ⟨_,_,_,_,h,_,by rw [h8];exact hr,hk,X,s',.gr rfl (.set hlt rfl) fun t' nl' els' e=>?_⟩
        simp [hlt] at e;obtain ⟨_,_,rfl⟩:=e;exact ⟨by simp,fun _=>by simp [upb]⟩
       ·have hold : ∀ (j : Nat) u,(c.toList.take (els.length * i.size))[j]? = some u -> w.cell? ((⟨b,0,none⟩ : Addr).add j) = some u:=by
         intro j u e
         rw [List.getElem?_take] at e
         split at e
         ·rw [kA,Nat.zero_add,vp h10];simpa using e
         ·cases e
        have hr:=run_append_grow (P:=P) w t ty el i zv q1 q2 z2 ⟨b,0,none⟩ els.length cap (c.toList.take (els.length * i.size)) (by simp;omega) hold a new.length c' news hl hcell (by omega) (by omega) (growslice_fits (by omega) b3')
        have hge:=grownCap_ge w (els.length + new.length) cap el
        have hle:=grownCap_le_maxLen w (els.length + new.length) cap el (by simp only [maxLen];omega)
        refine newrow (c.toList.take (els.length * i.size)) _ _ hne (by simp;omega) hge hle ?_ honeall hwwall ?_ (by rw [h8];exact hr)
        ·simp only [Array.size_append,List.size_toArray,size_zeroCells,hzs,hl,List.length_take,Array.length_toList]
         rw [Nat.min_eq_left (by omega),<- Nat.add_mul,<- Nat.add_mul];congr 1;omega
        ·have:=gM (tail:=(Builtin.zeroCells zv.cells (grownCap w (els.length + new.length) cap el - (els.length + new.length))).toList) h17 (by omega) hfl.symm us u1 u2
         refine cast ?_ this
         congr 1
         apply Array.ext';simp
 ·exact hk2.elim
theorem gt (s : SR P E h β H w) {t ty : TypeId} {i m n : Nat} {te : TypeId} {nl nx : Bool} {els new : List AV} (e1 : H[i]? = some (.grow te nl els)) (hm : els.length = m) (m0 : 0 < m) {dv v : Value} (hd : Rep P h β H (.os i m 0 n) dv) (hx : Rep P h β H (.sl nx new) v) {k : AV -> List Blk -> Prop}
  (hk : v6 P t i m n te nl els new H k) : zl P E h β H (Builtin.append_ #[t,t] ty #[dv,v]) w k:=by
 obtain ⟨y,h1,⟨hte,hw,hnm,hlen⟩,hk⟩:=zd hk
 obtain ⟨el,inf,z,q1,q2,q3,q4,q5,q6,rfl⟩:=jJ h1
 have hsz : sz P el = inf.size:=by simp [sz,q2]
 simp only at hw hte
 subst hte
 have src:=zay s hx (show vU H (.sl nx new) = some new from rfl) hw
 have hnw:=fun e he=>(yO hw e he).1
 have hlt : i < H.length:=(List.getElem?_eq_some_iff.1 e1).1
 have hne : new ≠ []:=fun e=>by subst e;simp at hlen;omega
 cases hd with
 | @os _ _ _ _ b q cap hi hnc hc hg hz =>
   obtain ⟨rfl,_,len,hβ⟩:=hz rfl _ _ _ e1 hm
   rcases s.blk i _ e1 with ⟨_,h7,_⟩ | ⟨_,h7,_⟩ | ⟨h6,b',cap',c,h8,h9,h10,h11,h12,h13,h14,h15,h16,us0,h17,h18⟩
   ·subst h7;simp at hm;omega
   ·subst h7;simp at hm;omega
   ·have hβ0:=h8
    rw [hβ] at h8;cases h8
    rw [hsz] at h13 h14 h15
    rcases src with ⟨hv,_⟩ | ⟨a,c',news,rfl,hl,hcell,hone',hone,us,u1,u2⟩
    ·exact absurd hv hne
    ·have hfl : flat els = flat (els.take n) ++ flat (els.drop n):=by rw [<- zZ,List.take_append_drop]
     have hup : ∀ (j : Nat) x,(flat (els.take n))[j]? = some x -> (flat els)[j]? = some x:=fun j x e=>by
      rw [hfl,List.getElem?_append_left (List.getElem?_eq_some_iff.1 e).1];exact e
     have hw1 : ∀ e ∈ els.take n,e.cells.length = inf.size:=fun e he=>h15 e (List.mem_of_mem_take he)
     have hl1 : (flat (els.take n)).length = n * inf.size:=by
      rw [zK hw1,List.length_take,hm,Nat.min_eq_left (by omega)]
     have hcap : m * inf.size <= cap * inf.size:=Nat.mul_le_mul_right _ (by omega)
     have hmm : n * inf.size + new.length * inf.size = m * inf.size:=by rw [<- Nat.add_mul,hlen]
     have hfit : n * inf.size + news.length <= c.size:=by rw [hl,h13];omega
     have hr:=run_append_room (P:=P) w t ty te inf q1 q2 b n cap c h10 a new.length c' news hl hcell hone' (by omega) hfit
     have hbo : blkOf β H i = some b:=by simp only [blkOf,e1,hβ,anchor];rw [if_neg (by omega)]
     have hval : (Value.slice (some (⟨b,0,none⟩ : Addr)) (n + new.length) cap) = β i:=by rw [hβ0,hlen,hm]
     rw [hval] at hr
     have hl2 : (els.take n ++ new).length = m:=by rw [List.length_append,List.length_take];omega
     obtain ⟨s',X⟩:=s.modify (β':=β) (w':=w.setRow b (c.toList.take (n * inf.size) ++ news ++ c.toList.drop (n * inf.size + news.length)).toArray) (x':=.grow te nl (els.take n ++ new)) e1
      (fun _ _=>rfl) (.inr ⟨_,_,rfl,by omega,fun _=>rfl⟩) ((jD _ _ _).trans s.env) (fun k _ hn=>setRow_other _ _ _ _ (fun e=>hn (by rw [hbo,e])))
      (fun b0 hb=>.inl (by rw [hbo];rw [hβ] at hb;simp only [anchor] at hb;rw [if_neg (by omega)] at hb;exact hb))
      (fun X=>.inr (.inr ⟨h6,b,cap,_,by rw [hβ0,hl2,hm],h9,setRow_heap w b c _ te _ h10,by omega,h12,by
       rw [hsz,<- h13]
       simp only [List.size_toArray,List.length_append,List.length_take,List.length_drop,Array.length_toList];omega,by rw [hsz];exact q5,fun e he=>by
        rw [hsz]
        rcases List.mem_append.1 he with he | he
        ·exact hw1 e he
        ·exact hnw e he,fun x hx=>by
        rw [zZ] at hx
        rcases List.mem_append.1 hx with hx | hx
        ·exact h16 x (by rw [hfl];exact List.mem_append_left _ hx)
        ·exact hone x hx,
       gM (els:=els.take n) ⟨us0,fun j x e=>h17 j x (hup j x e),fun j x e=>X.rep (h18 j x (hup j x e))⟩ (by rw [hl1,h13];omega) hl1.symm us u1 (fun j x e=>X.rep (u2 j x e))⟩))
     refine ⟨_,_,_,_,h,_,hr,hk,X,s',.gr (by rw [hβ];rfl) (.set hlt rfl) fun t' nl' els' e=>?_⟩
     simp [hlt] at e;obtain ⟨_,_,rfl⟩:=e;exact ⟨by omega,fun _=>rfl⟩
theorem zbd (s : SR P E h β H w) {t ty : TypeId} {d x : AV} {dv v : Value} (hd : Rep P h β H d dv) (hx : Rep P h β H x v) {k : AV -> List Blk -> Prop} (hk : wu P t d x H k) :
  zl P E h β H (Builtin.append_ #[t,t] ty #[dv,v]) w k:=by
 unfold wu at hk
 split at hk
 ·split at hk
  ·split at hk
   ·rename_i e1
    obtain ⟨⟨rfl,hm,m0⟩,hk⟩:=hk
    rcases hk with ⟨rfl,hk⟩ | hk
    ·refine wW s ?_ hx hk
     cases hd with
     | @os _ _ _ _ b q cap hi hnc hc hg hz =>
       obtain ⟨rfl,_,len,hβ⟩:=hz rfl _ _ _ e1 hm
       rcases s.blk _ _ e1 with ⟨_,h7,_⟩ | ⟨_,h7,_⟩ | ⟨_,b',cap',c,h8,_⟩
       ·subst h7;simp at hm;omega
       ·subst h7;simp at hm;omega
       ·have hβ0:=h8
        rw [hβ] at h8;cases h8
        refine .gr rfl hi fun t' nl' els' e=>?_
        rw [e1] at e;cases e
        exact ⟨by omega,fun _=>by rw [hβ0,hm]⟩
    ·exact gt s e1 hm m0 hd hx hk
   ·exact hk.elim
  ·exact hk.elim
 ·exact wW s hd hx hk
end
end GA
end
section
namespace GA
open Go Go.RowKit
def intA : AV -> Option Int
 | .int _ n=>some n
 | _=>none
def evO (σ : St) : Option Operand -> Option (Option AV)
 | none=>some none
 | some x=>(ev σ x).map some
def bdA (d : Int) : Option AV -> Option Int
 | none=>some d
 | some x=>intA x
def vE (P : Program) (t : TypeId) (x : AV) (lo hi mx : Option AV) (k : AV -> Prop) : Prop:=
 match x with
 | .sl nl els=>bnd (slK P t) fun n=>bnd (bdA 0 lo) fun l=>bnd (bdA els.length hi) fun r =>
   match mx with
   | none=>(0 <= l /\ l <= r /\ r <= els.length /\ (l = 0 \/ wide n els = true)) /\ k (.sl nl ((els.drop l.toNat).take (r - l).toNat))
   | some m=>bnd (intA m) fun m=>(l = 0 /\ r = 0 /\ m = 0 /\ hi.isSome = true) /\ k (if nl then .sl true [] else .se)
 | .pim cs=>bnd (arK P t) fun y=>y.2.1 = false /\ y.2.2 = 1 /\ y.1 <= cs.length /\ bnd (bdA 0 lo) fun l=>bnd (bdA y.1 hi) fun r =>
   mx = none /\ (0 <= l /\ l <= r /\ r <= y.1) /\ k (.sl false ((cs.drop l.toNat).take (r - l).toNat))
 | _=>False
def vb (P : Program) (t : TypeId) (H : List Blk) (x : AV) (lo hi mx : Option AV) (k : AV -> Prop) : Prop:=
 match x with
 | .ptr i o=>mx = none /\ bnd (arK P t) fun y=>bnd (bdA 0 lo) fun l=>bnd (bdA y.1 hi) fun r=>(0 <= l /\ l <= r /\ r <= y.1) /\ (match H[i]? with | some (.cells _)=>True | _=>False) /\ k (.os i 0 (o + l.toNat * y.2.2) (r - l).toNat)
 | .gr i n=>mx = none /\ bnd (slK P t) fun w=>bnd (bdA 0 lo) fun l=>bnd (bdA n hi) fun r=>(0 <= l /\ l <= r /\ r <= n /\ 0 < n) /\ (match H[i]? with | some (.grow te _ els)=>els.length = n /\ w = sz P te | _=>False) /\ k (.os i n l.toNat (r - l).toNat)
 | .os i m o n=>mx = none /\ bnd (slK P t) fun w=>bnd (bdA 0 lo) fun l=>bnd (bdA n hi) fun r=>(0 <= l /\ l <= r /\ r <= n) /\ (match H[i]? with
   | some (.grow te _ els)=>els.length = m /\ w = sz P te /\ k (.os i m (o + l.toNat) (r - l).toNat)
   | some (.cells _)=>k (.os i m (o + l.toNat * w) (r - l).toNat)
   | _=>False)
 | x=>vE P t x lo hi mx k
def opUn (op : UnOp) (x : AV) (k : AV -> Prop) : Prop:=
 match op,x with
 | .not,.bool b=>k (.bool !b)
 | .neg,.int q n=>k (.int q (q.wrap (0 - n)))
 | .xor,.int q n=>k (.int q (ixor q (if q.signed then -1 else q.max) n))
 | _,_=>False
def zcx (P : Program) (s d : TypeId) (x : AV) (k : AV -> Prop) : Prop:=
 match x with
 | .int _ n=>(P.underlying s).isSome = true /\ match P.underlying d with | some (.int q)=>k (.int q (q.wrap n)) | _=>False
 | _=>False
def opExt (x : AV) (i : Nat) (k : AV -> Prop) : Prop:=match x with | .tup vs=>bnd vs[i]? k | _=>False
def opLen (P : Program) (t : TypeId) (H : List Blk) (x : AV) (k : AV -> Prop) : Prop:=
 match x with
 | .sl _ els=>gY P t /\ k (.int .i64 els.length)
 | .se=>gY P t /\ k (.int .i64 0)
 | .gr i n=>gY P t /\ (match H[i]? with | some (.grow _ _ els)=>els.length = n | _=>False) /\ k (.int .i64 n)
 | .os _ _ _ n=>gY P t /\ k (.int .i64 n)
 | .mp i=>(∃ a b,P.underlying t = some (.map a b)) /\ (match H[i]? with | some (.map es)=>k (.int .i64 es.length) | _=>False)
 | _=>False
def opMin (x y : AV) (k : AV -> Prop) : Prop:=match x,y with | .int q a,.int _ b=>k (.int q (if b < a then b else a)) | _,_=>False
def opMax (x y : AV) (k : AV -> Prop) : Prop:=match x,y with | .int q a,.int _ b=>k (.int q (if b > a then b else a)) | _,_=>False
def zav (x : AV) (k : AV -> Prop) : Prop:=
 match x with
 | .pim _ | .ptr _ _ | .gp _ _ _ _ | .fn _ _ | .bf _ _=>k x
 | _=>False
section
variable {P : Program} {E : Env} {h : Nat -> Option Obj} {β : Nat -> Value} {H : List Blk} {w : World} {σ : St} {a : Act}
theorem RepO.ev (F : Fits P h β H σ a) {x : Option Operand} {r : Option AV} (e : evO σ x = some r) : (x = none /\ r = none) \/ ∃ o v,x = some o /\ r = some v /\ Rep P h β H v (a.eval o):=by
 cases x with
 | none=>cases e;exact .inl ⟨rfl,rfl⟩
 | some o =>
   simp only [evO] at e
   cases h1 : GA.ev σ o with
   | none=>simp [h1] at e
   | some v=>simp [h1] at e;exact .inr ⟨o,v,rfl,e.symm,F.ev h1⟩
theorem yB {d : Int} {x : Option AV} {n : Int} (e : bdA d x = some n) (v : Option Value) (hv : (x = none /\ v = none) \/ ∃ r u,x = some r /\ v = some u /\ Rep P h β H r u) : (x = none /\ v = none /\ n = d) \/ ∃ q,v = some (.int q n):=by
 rcases hv with ⟨rfl,rfl⟩ | ⟨r,u,rfl,rfl,hr⟩
 ·cases e;exact .inl ⟨rfl,rfl,rfl⟩
 ·cases r <;> simp [bdA,intA] at e
  subst e;cases z9 hr;exact .inr ⟨_,rfl⟩
theorem jE {q : IntKind} {n : Int} {y : Nat} {code : BoundsCode} (h0 : 0 <= n) (h1 : n <= y) : (Instr.sliceBound (.int q n) y code).run P w = .ok n.toNat w:=by
 simp [Instr.sliceBound,asIntOf,h0,h1]
theorem yv {isSl : Bool} {len cap : Nat} {lo hi : Option Value} {l r : Int} (hlc : len <= cap) (hl : (lo = none /\ l = 0) \/ ∃ q,lo = some (.int q l)) (hr : (hi = none /\ r = len) \/ ∃ q,hi = some (.int q r)) (h0 : 0 <= l) (h1 : l <= r) (h2 : r <= len) :
  (Instr.sliceBounds isSl len cap lo hi none).run P w = .ok (l.toNat,r.toNat,cap) w:=by
 have hb:=fun (q : IntKind) (c : BoundsCode)=>jE (P:=P) (w:=w) (q:=q) (n:=r) (y:=cap) (code:=c) (by omega) (by omega)
 have hb2:=fun (q : IntKind) (c : BoundsCode)=>jE (P:=P) (w:=w) (q:=q) (n:=l) (y:=r.toNat) (code:=c) h0 (by omega)
 have hb3:=fun (q : IntKind) (c : BoundsCode) (e : r = len)=>jE (P:=P) (w:=w) (q:=q) (n:=l) (y:=len) (code:=c) h0 (by omega)
 rcases hl with ⟨rfl,rfl⟩ | ⟨q,rfl⟩ <;> rcases hr with ⟨rfl,rfl⟩ | ⟨q',rfl⟩
 ·simp [Instr.sliceBounds]
 ·simp [Instr.sliceBounds,hb]
 ·simp [Instr.sliceBounds,hb3]
 ·simp [Instr.sliceBounds,hb,hb2]
theorem zbv (s : SR P E h β H w) {t : TypeId} {x : AV} {v : Value} (hx : Rep P h β H x v) {lo hi mx : Option AV} {lov hiv mxv : Option Value}
  (hlo : (lo = none /\ lov = none) \/ ∃ r u,lo = some r /\ lov = some u /\ Rep P h β H r u) (hhi : (hi = none /\ hiv = none) \/ ∃ r u,hi = some r /\ hiv = some u /\ Rep P h β H r u)
  (hmx : (mx = none /\ mxv = none) \/ ∃ r u,mx = some r /\ mxv = some u /\ Rep P h β H r u) {k : AV -> Prop} (hk : vE P t x lo hi mx k) :
  zl P E h β H (Instr.sliceAt t v lov hiv mxv) w (fun r H'=>H' = H /\ k r):=by
 unfold vE at hk
 split at hk
 ·rename_i nl els
  obtain ⟨n,hsl,hk0⟩:=zd hk
  obtain ⟨el,i,d,q1,q2,q3,rfl⟩:=wz hsl
  obtain ⟨l,h1,hk1⟩:=zd hk0
  obtain ⟨r,h2,hk2⟩:=zd hk1
  have hl:=yB h1 lov hlo
  have hr:=yB h2 hiv hhi
  have hsz : (Go.sizeOf el).run P w = .ok i.size w:=by simp [Go.sizeOf,typeInfo,q2]
  split at hk2
  ·obtain ⟨⟨b1,b2,b3,b4⟩,hk3⟩:=hk2
   have hm : mxv = none:=by rcases hmx with ⟨_,h⟩ | ⟨r,u,h,_⟩;exact h;cases h
   subst hm
   have hl' : (lov = none /\ l = 0) \/ ∃ q,lov = some (.int q l):=hl.imp (fun x=>⟨x.2.1,x.2.2⟩) id
   have hr' : (hiv = none /\ r = els.length) \/ ∃ q,hiv = some (.int q r):=hr.imp (fun x=>⟨x.2.1,x.2.2⟩) id
   have run : ∀ (o : Option Addr) (cap : Nat),els.length <= cap -> (Instr.sliceAt t (.slice o els.length cap) lov hiv none).run P w = .ok (.slice (if cap = l.toNat then o else o.map (·.add (l.toNat * i.size))) (r.toNat - l.toNat) (cap - l.toNat)) w:=by
    intro o cap hc
    simp [Instr.sliceAt,run_underlying q1,Instr.slice,yv hc hl' hr' b1 b2 b3,hsz]
   cases hx with
   | slnil =>
     simp only [List.length_nil] at b3
     have : l = 0:=by simp at b3;omega
     have : r = 0:=by simp at b3;omega
     subst l;subst r
     have:=run none 0 (Nat.le_refl _)
     refine zl.pure s this ?_ ⟨rfl,hk3⟩
     simp;exact .slnil
   | @slemp aa cap =>
     have : l = 0:=by simp at b3;omega
     have : r = 0:=by simp at b3;omega
     subst l;subst r
     have:=run (some aa) cap (by simp)
     refine zl.pure s this ?_ ⟨rfl,hk3⟩
     simp only [List.drop_nil,List.take_nil,Option.map_some]
     split <;> exact .slemp
   | @sl b off cap c tt fz els w' nn us hn hne hb hw hw0 hone hcap hc hrr =>
     subst hn
     have:=run (some ⟨b,off,none⟩) cap hcap
     refine zl.pure s this ?_ ⟨rfl,hk3⟩
     by_cases hemp : r = l
     ·subst hemp
      simp only [Int.sub_self,Int.toNat_zero,List.take_zero,Nat.sub_self,Option.map_some]
      split <;> exact .slemp
     ·have hcl : cap ≠ l.toNat:=by omega
      rw [if_neg hcl]
      simp only [Option.map_some,kA]
      obtain ⟨e0,he0⟩ : ∃ e,e ∈ els:=by cases els with | nil=>exact absurd rfl hne | cons e _=>exact ⟨e,by simp⟩
      have hlen : ((els.drop l.toNat).take (r - l).toNat).length = r.toNat - l.toNat:=by simp;omega
      have hww : l.toNat * i.size = l.toNat * w':=by
       rcases b4 with b4 | b4
       ·subst b4;simp
       ·rw [(yO b4 e0 he0).1.symm.trans (hw e0 he0)]
      rw [hww]
      refine .sl (w:=w') (fun j=>us (l.toNat * w' + j)) hlen.symm (fun e=>by rw [e] at hlen;simp at hlen;omega) hb (fun e he=>hw e (List.mem_of_mem_drop (List.mem_of_mem_take he))) hw0 (fun x hx=>hone x (qT hx)) (by omega)
       (fun j x e=>by rw [Nat.add_assoc];exact hc _ _ (ku hw _ _ j x e)) (fun j x e=>hrr _ _ (ku hw _ _ j x e))
  ·rename_i m
   obtain ⟨m',h3,⟨rfl,rfl,rfl,hsome⟩,hk3⟩:=zd hk2
   have hmx' : ∃ q,mxv = some (.int q 0):=by
    rcases hmx with ⟨h,_⟩ | ⟨r,u,h,h',hru⟩
    ·cases h
    ·cases h;cases m <;> simp [intA] at h3
     subst h3;cases z9 hru;exact ⟨_,h'⟩
   obtain ⟨q,rfl⟩:=hmx'
   have hl' : lov = none \/ ∃ q,lov = some (.int q 0):=hl.imp (fun x=>x.2.1) id
   have hr' : ∃ q,hiv = some (.int q 0):=by
    rcases hr with ⟨h,_,_⟩ | h
    ·rw [h] at hsome;cases hsome
    ·exact h
   obtain ⟨q',rfl⟩:=hr'
   have run : ∀ (o : Option Addr) (n cap : Nat),(Instr.sliceAt t (.slice o n cap) lov (some (.int q' 0)) (some (.int q 0))).run P w = .ok (.slice o 0 0) w:=by
    intro o n cap
    rcases hl' with rfl | ⟨q2',rfl⟩ <;> simp [Instr.sliceAt,run_underlying q1,Instr.slice,Instr.sliceBounds,Instr.sliceBound,asIntOf,hsz]
   cases hx with
   | slnil=>exact zl.pure s (run none 0 0) .slnil ⟨rfl,hk3⟩
   | @slemp aa cap=>exact zl.pure s (run (some aa) 0 cap) .se ⟨rfl,hk3⟩
   | @sl b off cap c tt fz els w' nn=>exact zl.pure s (run (some ⟨b,off,none⟩) nn cap) .se ⟨rfl,hk3⟩
 ·rename_i cs
  obtain ⟨y,h0,y1,y2,y3,hk0⟩:=zd hk
  obtain ⟨l,h1,hk1⟩:=zd hk0
  obtain ⟨r,h2,rfl,⟨b1,b2,b3⟩,hk2⟩:=zd hk1
  obtain ⟨n,el,i,d,q1,q2,q3,rfl⟩:=va h0
  have hl:=yB h1 lov hlo
  have hr:=yB h2 hiv hhi
  have hl' : (lov = none /\ l = 0) \/ ∃ q,lov = some (.int q l):=hl.imp (fun x=>⟨x.2.1,x.2.2⟩) id
  have hr' : (hiv = none /\ r = n) \/ ∃ q,hiv = some (.int q r):=hr.imp (fun x=>⟨x.2.1,x.2.2⟩) id
  have hm : mxv = none:=by rcases hmx with ⟨_,h⟩ | ⟨r,u,h,_⟩;exact h;cases h
  subst hm
  have hsz : (Go.sizeOf el).run P w = .ok i.size w:=by simp [Go.sizeOf,typeInfo,q2]
  simp only at y1 y2 y3
  cases hx with
  | @pim b off c tt fz cs us hone hb hc hrr =>
    have run : (Instr.sliceAt t (.pointer (some ⟨b,off,none⟩)) lov hiv none).run P w = .ok (.slice (some (if n = l.toNat then ⟨b,off,none⟩ else ⟨b,off + l.toNat,none⟩)) (r.toNat - l.toNat) (n - l.toNat)) w:=by
     have:=yv (P:=P) (w:=w) (isSl:=false) (Nat.le_refl n) hl' hr' b1 b2 b3
     simp [Instr.sliceAt,run_underlying q1,Instr.sureAddr,this,hsz,kA,y2]
    have hone' : ∀ x ∈ (cs.drop l.toNat).take (r - l).toNat,x.one = true:=fun x hx=>hone x (List.mem_of_mem_drop (List.mem_of_mem_take hx))
    have hcell : ∀ x : AV,x.one = true -> x.cells.length = 1:=fun x hx=>by cases x <;> first | rfl | simp [AV.one] at hx
    have hlen : ((cs.drop l.toNat).take (r - l).toNat).length = r.toNat - l.toNat:=by simp;omega
    have hget : ∀ (j : Nat) x,((cs.drop l.toNat).take (r - l).toNat)[j]? = some x -> cs[l.toNat + j]? = some x:=by
     intro j x e
     rw [List.getElem?_take] at e
     split at e
     ·rw [List.getElem?_drop] at e;exact e
     ·cases e
    refine zl.pure s run ?_ ⟨rfl,hk2⟩
    by_cases hemp : r = l
    ·subst hemp
     simp only [Int.sub_self,Int.toNat_zero,List.take_zero,Nat.sub_self]
     exact .slemp
    ·rw [if_neg (by omega)]
     refine .sl (w:=1) (c:=c) (fun j=>us (l.toNat + j)) hlen.symm (fun e=>by rw [e] at hlen;simp at hlen;omega) hb (fun e he=>hcell e (hone' e he)) (by omega) (by rw [yP hone'];exact hone') (by omega)
      (fun j x e=>by rw [yP hone'] at e;rw [Nat.add_assoc];exact hc _ _ (hget j x e)) (fun j x e=>by rw [yP hone'] at e;exact hrr _ _ (hget j x e))
 ·exact hk.elim
theorem zaE (s : SR P E h β H w) {t : TypeId} {x : AV} {v : Value} (hx : Rep P h β H x v) {lo hi mx : Option AV} {lov hiv mxv : Option Value}
  (hlo : (lo = none /\ lov = none) \/ ∃ r u,lo = some r /\ lov = some u /\ Rep P h β H r u) (hhi : (hi = none /\ hiv = none) \/ ∃ r u,hi = some r /\ hiv = some u /\ Rep P h β H r u)
  (hmx : (mx = none /\ mxv = none) \/ ∃ r u,mx = some r /\ mxv = some u /\ Rep P h β H r u) {k : AV -> Prop} (hk : vb P t H x lo hi mx k) :
  zl P E h β H (Instr.sliceAt t v lov hiv mxv) w (fun r H'=>H' = H /\ k r):=by
 unfold vb at hk
 split at hk
 ·rename_i ii o
  obtain ⟨rfl,hk⟩:=hk
  have hm : mxv = none:=by rcases hmx with ⟨_,h⟩ | ⟨r,u,h,_⟩;exact h;cases h
  subst hm
  obtain ⟨y,h0,hk0⟩:=zd hk
  obtain ⟨l,h1,hk1⟩:=zd hk0
  obtain ⟨r,h2,⟨b1,b2,b3⟩,hc,hk2⟩:=zd hk1
  obtain ⟨n,el,i,d,q1,q2,q3,rfl⟩:=va h0
  have hl:=yB h1 lov hlo
  have hr:=yB h2 hiv hhi
  have hl' : (lov = none /\ l = 0) \/ ∃ q,lov = some (.int q l):=hl.imp (fun x=>⟨x.2.1,x.2.2⟩) id
  have hr' : (hiv = none /\ r = n) \/ ∃ q,hiv = some (.int q r):=hr.imp (fun x=>⟨x.2.1,x.2.2⟩) id
  have hsz : (Go.sizeOf el).run P w = .ok i.size w:=by simp [Go.sizeOf,typeInfo,q2]
  simp only at b3
  cases hx with
  | @ptr _ _ b hlive hb =>
    have run : (Instr.sliceAt t (.pointer (some ⟨b,o,none⟩)) lov hiv none).run P w = .ok (.slice (some (if n = l.toNat then ⟨b,o,none⟩ else ⟨b,o + l.toNat * i.size,none⟩)) (r.toNat - l.toNat) (n - l.toNat)) w:=by
     have:=yv (P:=P) (w:=w) (isSl:=false) (Nat.le_refl n) hl' hr' b1 b2 b3
     simp [Instr.sliceAt,run_underlying q1,Instr.sureAddr,this,hsz,kA]
    split at hc
    ·rename_i cs e1
     have hn : (r - l).toNat = r.toNat - l.toNat:=by omega
     have hval : (Value.slice (some (if n = l.toNat then (⟨b,o,none⟩ : Addr) else ⟨b,o + l.toNat * i.size,none⟩)) (r.toNat - l.toNat) (n - l.toNat)) = .slice (some ⟨b,if n = l.toNat then o else o + l.toNat * i.size,none⟩) (r - l).toNat (n - l.toNat):=by
      rw [hn];split <;> rfl
     rw [hval] at run
     refine zl.pure s run (.os hlive (by omega) (fun cs' e' hne=>⟨?_,hb cs' e'⟩) (fun t' nl els e'=>?_) fun _ t' nl els e'=>?_) ⟨rfl,hk2⟩
     ·rw [if_neg (by omega)]
     ·rw [e1] at e';cases e'
     ·rw [e1] at e';cases e'
    ·exact hc.elim
 ·rename_i ii n0
  obtain ⟨rfl,hk⟩:=hk
  have hm : mxv = none:=by rcases hmx with ⟨_,h⟩ | ⟨r,u,h,_⟩;exact h;cases h
  subst hm
  obtain ⟨wd,h0,hk0⟩:=zd hk
  obtain ⟨l,h1,hk1⟩:=zd hk0
  obtain ⟨r,h2,⟨b1,b2,b3,b4⟩,hc,hk2⟩:=zd hk1
  obtain ⟨el,i,d,q1,q2,q3,rfl⟩:=wz h0
  have hl:=yB h1 lov hlo
  have hr:=yB h2 hiv hhi
  have hl' : (lov = none /\ l = 0) \/ ∃ q,lov = some (.int q l):=hl.imp (fun x=>⟨x.2.1,x.2.2⟩) id
  have hr' : (hiv = none /\ r = n0) \/ ∃ q,hiv = some (.int q r):=hr.imp (fun x=>⟨x.2.1,x.2.2⟩) id
  have hsz : (Go.sizeOf el).run P w = .ok i.size w:=by simp [Go.sizeOf,typeInfo,q2]
  split at hc
  ·rename_i te nl els e1
   obtain ⟨c1,c2⟩:=hc
   cases hx with
   | gr ho hlive hv =>
     obtain ⟨_,g2⟩:=hv _ _ _ e1
     have hβ:=g2 c1
     subst hβ
     rcases s.blk ii _ e1 with ⟨_,h7,h8⟩ | ⟨_,h7,a,h8⟩ | ⟨_,b,cap,c,h8,h9,h10,h11,h12,_⟩
     ·subst h7;simp at c1;omega
     ·subst h7;simp at c1;omega
     ·have run : (Instr.sliceAt t (β ii) lov hiv none).run P w = .ok (.slice (some ⟨b,if cap = l.toNat then 0 else l.toNat * i.size,none⟩) (r - l).toNat (cap - l.toNat)) w:=by
       have hn : (r - l).toNat = r.toNat - l.toNat:=by omega
       have:=yv (P:=P) (w:=w) (isSl:=true) (len:=n0) (cap:=cap) (by omega) hl' hr' b1 b2 b3
       rw [h8,c1,hn]
       simp [Instr.sliceAt,run_underlying q1,Instr.slice,this,hsz,kA]
       split <;> rfl
      refine zl.pure s run (.os hlive (by omega) (fun cs' e' hne=>?_) (fun t' nl' els' e'=>?_) fun ho t' nl' els' e' hlen=>?_) ⟨rfl,hk2⟩
      ·rw [e1] at e';cases e'
      ·rw [e1] at e';cases e'
       exact ⟨by omega,fun _ hne=>⟨by omega,by rw [if_neg (by omega),c2],_,_,h8⟩⟩
      ·rw [e1] at e';cases e'
       refine ⟨by rw [ho,Nat.zero_mul];split <;> rfl,by omega,els.length,?_⟩
       rw [ho,Nat.sub_zero];exact h8
  ·exact hc.elim
 ·rename_i ii m o n0
  obtain ⟨rfl,hk⟩:=hk
  have hm : mxv = none:=by rcases hmx with ⟨_,h⟩ | ⟨r,u,h,_⟩;exact h;cases h
  subst hm
  obtain ⟨wd,h0,hk0⟩:=zd hk
  obtain ⟨l,h1,hk1⟩:=zd hk0
  obtain ⟨r,h2,⟨b1,b2,b3⟩,hk2⟩:=zd hk1
  obtain ⟨el,i,d,q1,q2,q3,rfl⟩:=wz h0
  have hl:=yB h1 lov hlo
  have hr:=yB h2 hiv hhi
  have hl' : (lov = none /\ l = 0) \/ ∃ q,lov = some (.int q l):=hl.imp (fun x=>⟨x.2.1,x.2.2⟩) id
  have hr' : (hiv = none /\ r = n0) \/ ∃ q,hiv = some (.int q r):=hr.imp (fun x=>⟨x.2.1,x.2.2⟩) id
  have hsz : (Go.sizeOf el).run P w = .ok i.size w:=by simp [Go.sizeOf,typeInfo,q2]
  cases hx with
  | @os _ _ _ _ b q cap hlive hnc hc hg hz =>
    have run : (Instr.sliceAt t (.slice (some ⟨b,q,none⟩) n0 cap) lov hiv none).run P w = .ok (.slice (some ⟨b,if cap = l.toNat then q else q + l.toNat * i.size,none⟩) (r - l).toNat (cap - l.toNat)) w:=by
     have hn : (r - l).toNat = r.toNat - l.toNat:=by omega
     have:=yv (P:=P) (w:=w) (isSl:=true) (len:=n0) (cap:=cap) hnc hl' hr' b1 b2 b3
     rw [hn]
     simp [Instr.sliceAt,run_underlying q1,Instr.slice,this,hsz,kA]
     split <;> rfl
    split at hk2
    ·rename_i te nl els e1
     obtain ⟨c1,c2,hk2⟩:=hk2
     obtain ⟨g1,g2⟩:=hg _ _ _ e1
     refine zl.pure s run (.os hlive (by omega) (fun cs' e' hne=>?_) (fun t' nl' els' e'=>?_) fun ho t' nl' els' e' hlen=>?_) ⟨rfl,hk2⟩
     ·rw [e1] at e';cases e'
     ·rw [e1] at e';cases e'
      refine ⟨g1,fun hm hne=>?_⟩
      obtain ⟨g3,g4,g5⟩:=g2 hm (by omega)
      exact ⟨by omega,by rw [if_neg (by omega),g4,c2,Nat.add_mul],g5⟩
     ·rw [e1] at e';cases e'
      obtain ⟨g3,g4,g5⟩:=hz (by omega) _ _ _ e1 hlen
      have hl0 : l.toNat = 0:=by omega
      refine ⟨by rw [hl0,g3,Nat.zero_mul];split <;> rfl,by omega,?_⟩
      rw [hl0,Nat.sub_zero];exact g5
    ·rename_i cs e1
     refine zl.pure s run (.os hlive (by omega) (fun cs' e' hne=>?_) (fun t' nl' els' e'=>?_) fun _ t' nl' els' e'=>?_) ⟨rfl,hk2⟩
     ·obtain ⟨g1,g2⟩:=hc cs' e' (by omega)
      exact ⟨by rw [if_neg (by omega),g1],g2⟩
     ·rw [e1] at e';cases e'
     ·rw [e1] at e';cases e'
    ·exact hk2.elim
 ·exact zbv s hx hlo hhi hmx hk
theorem zeJ (s : SR P E h β H w) {op : UnOp} {x : AV} {v : Value} (hx : Rep P h β H x v) {k : AV -> Prop} (hk : opUn op x k) : zl P E h β H (Op.unary op v) w (fun r H'=>H' = H /\ k r):=by
 unfold opUn at hk
 split at hk
 ·cases k6 hx;exact zl.pure s rfl (.bool _) ⟨rfl,hk⟩
 ·cases z9 hx;exact zl.pure s rfl (.int _ _) ⟨rfl,hk⟩
 ·cases z9 hx;exact zl.pure s rfl (.int _ _) ⟨rfl,hk⟩
 ·exact hk.elim
theorem zcL (s : SR P E h β H w) {t d : TypeId} {x : AV} {v : Value} (hx : Rep P h β H x v) {k : AV -> Prop} (hk : zcx P t d x k) : zl P E h β H (convert t d v) w (fun r H'=>H' = H /\ k r):=by
 unfold zcx at hk
 split at hk
 ·cases z9 hx
  obtain ⟨h1,hk⟩:=hk
  obtain ⟨sd,h1⟩:=Option.isSome_iff_exists.1 h1
  split at hk
  ·rename_i q h2
   refine zl.pure s ?_ (.int _ _) ⟨rfl,hk⟩
   simp only [convert,Sem.run_bind,run_underlying h1,run_underlying h2,Result.andThen_ok]
   cases sd <;> rfl
  ·exact hk.elim
 ·exact hk.elim
theorem zdX (s : SR P E h β H w) {x : AV} {v : Value} (hx : Rep P h β H x v) {i : Nat} {k : AV -> Prop} (hk : opExt x i k) : zl P E h β H (Instr.extract v i) w (fun r H'=>H' = H /\ k r):=by
 unfold opExt at hk
 split at hk
 ·obtain ⟨r,h1,hk⟩:=zd hk
  cases hx with
  | tup us hs hc hr =>
    refine zl.pure s (v:=us i) ?_ (hr _ _ h1) ⟨rfl,hk⟩
    simp [Instr.extract,hc _ _ h1]
 ·exact hk.elim
theorem zeq (s : SR P E h β H w) {t ty : TypeId} {x : AV} {v : Value} (hx : Rep P h β H x v) {k : AV -> Prop} (hk : opLen P t H x k) : zl P E h β H (Builtin.len_ #[t] ty #[v]) w (fun r H'=>H' = H /\ k r):=by
 have run : ∀ (o : Option Addr) (n c : Nat),gY P t -> (Builtin.len_ #[t] ty #[.slice o n c]).run P w = .ok (.int .i64 n) w:=by
  rintro o n c ⟨e,h1⟩
  simp [Builtin.len_,run_underlying h1,goInt]
 unfold opLen at hk
 split at hk
 ·obtain ⟨h1,hk⟩:=hk
  rcases rep_sl hx with ⟨rfl,rfl,rfl⟩ | ⟨rfl,a,cap,rfl⟩
  ·exact zl.pure s (run _ _ _ h1) (.int _ _) ⟨rfl,hk⟩
  ·exact zl.pure s (run _ _ _ h1) (.int _ _) ⟨rfl,hk⟩
 ·obtain ⟨h1,hk⟩:=hk
  cases hx;exact zl.pure s (run _ _ _ h1) (.int _ _) ⟨rfl,hk⟩
 ·obtain ⟨h1,h2,hk⟩:=hk
  split at h2
  ·rename_i i n _ t' nl els e1
   cases hx with
   | gr ho hi hv =>
     have:=(hv _ _ _ e1).2 h2
     subst this
     rcases s.blk i _ e1 with ⟨_,h7,h8⟩ | ⟨_,h7,a,h8⟩ | ⟨_,b,cap,c,h8,_⟩
     ·rw [h8];subst h7;subst h2;exact zl.pure s (run _ _ _ h1) (.int _ _) ⟨rfl,hk⟩
     ·rw [h8];subst h7;subst h2;exact zl.pure s (run _ _ _ h1) (.int _ _) ⟨rfl,hk⟩
     ·rw [h8,h2];exact zl.pure s (run _ _ _ h1) (.int _ _) ⟨rfl,hk⟩
  ·exact h2.elim
 ·obtain ⟨h1,hk⟩:=hk
  cases hx;exact zl.pure s (run _ _ _ h1) (.int _ _) ⟨rfl,hk⟩
 ·obtain ⟨⟨a,b,h1⟩,h2⟩:=hk
  split at h2
  ·rename_i es e1
   cases hx with
   | @mp i r hi hb =>
     obtain ⟨r',ents,clock,h7,h8,_,h9⟩:=s.blk _ _ e1
     have h:=hb _ e1 rfl
     rw [h7] at h
     injection h with h
     injection h with h
     subst h
     have hg : (getObj r').run P w = .ok (.map ents clock) w:=by simp [getObj,Sem.run,h8]
     refine zl.pure s ?_ (.int _ _) ⟨rfl,h2⟩
     simp [Builtin.len_,run_underlying h1,goInt,hg,h9.1]
  ·exact h2.elim
 ·exact hk.elim
theorem zd1 (s : SR P E h β H w) {ts : Array TypeId} {ty : TypeId} {x y : AV} {u v : Value} (hx : Rep P h β H x u) (hy : Rep P h β H y v) {k : AV -> Prop} (hk : opMin x y k) : zl P E h β H (Builtin.min_ ts ty #[u,v]) w (fun r H'=>H' = H /\ k r):=by
 unfold opMin at hk
 split at hk
 ·cases z9 hx;cases z9 hy;exact zl.pure s (run_min_int2 w _ _ _ _ _ _) (.int _ _) ⟨rfl,hk⟩
 ·exact hk.elim
theorem zel (s : SR P E h β H w) {ts : Array TypeId} {ty : TypeId} {x y : AV} {u v : Value} (hx : Rep P h β H x u) (hy : Rep P h β H y v) {k : AV -> Prop} (hk : opMax x y k) : zl P E h β H (Builtin.max_ ts ty #[u,v]) w (fun r H'=>H' = H /\ k r):=by
 unfold opMax at hk
 split at hk
 ·cases z9 hx;cases z9 hy;exact zl.pure s (run_max_int2 w _ _ _ _ _ _) (.int _ _) ⟨rfl,hk⟩
 ·exact hk.elim
end
end GA
end
