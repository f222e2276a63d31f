/- Part 3 of a proof: Abs16, Abs17, Abs18, Tab, Abs19, Abs20, Abs21, Abs22, Abs23, Abs24, Abs25. -/
import Derived.Test.YtdeocemmlagnhaaGreatP2
import Derived.Test.YtdeocemmlagnhaaGreatProg
import Derived.KernelRfl
import Derived.OrdersIn
set_option linter.unusedVariables false
set_option linter.unusedSimpArgs false
set_option maxRecDepth 8000
section
namespace GA
open Go Go.RowKit
def updX (σ : St) (d : Nat) (r : AV) : St:=fun t=>match Nat.beq t d with | true=>some r | false=>σ t
def putX (N : Nat) (σ : St) (d : Option Nat) (r : AV) : St:=match d with | some d=>(match Nat.blt d N with | true=>updX σ d r | false=>σ) | none=>σ
def stX : List (Nat × AV) -> St
 | []=>fun _=>none
 | (t,r) :: l=>updX (stX l) t r
theorem yl (σ : St) (d : Nat) (r : AV) : updX σ d r = upd σ d r:=by
 funext t;unfold updX upd
 by_cases h : t = d
 ·subst h;simp
 ·rw [if_neg h];cases e : Nat.beq t d with
  | true=>exact absurd (Nat.eq_of_beq_eq_true e) h
  | false=>rfl
theorem zax (N : Nat) (σ : St) (d : Option Nat) (r : AV) : putX N σ d r = putO N σ d r:=by
 cases d with
 | none=>rfl
 | some d =>
   simp only [putX,putO]
   cases e : Nat.blt d N with
   | true=>rw [if_pos (by simpa [Nat.blt_eq] using e)];exact yl _ _ _
   | false=>rw [if_neg (by intro h;rw [<- Nat.blt_eq] at h;rw [h] at e;cases e)]
theorem wT {σ : St} {d : Nat} {r : AV} (h : σ d = some r) : updX σ d r = σ:=by
 rw [yl];funext t;unfold upd;split
 ·rename_i e;rw [e,h]
 ·rfl
def xGate (all : List Oper) (σ : St) (g : Option (Nat × Bool)) (A B : St -> Prop) : Prop:=
 match g with
 | none=>A σ
 | some (j,want)=>bnd (lget all j) fun o=>bnd o.dst fun d=>bnd (σ d) fun r =>
   match r with
   | .bool b=>match want with
     | true=>XBr b (A (updX σ d (.bool true))) (B (updX σ d (.bool false)))
     | false=>XBr b (B (updX σ d (.bool true))) (A (updX σ d (.bool false)))
   | .tup []=>B σ
   | _=>False
def XReg (P : Program) (T : Tab) (N : Nat) (own : List Nat) (all : List Oper) : List Oper -> St -> List Blk -> (St -> List Blk -> Prop) -> Prop
 | [],σ,H,K=>K σ H
 | o :: rest,σ,H,K=>xGate all σ o.guard (fun σ=>XOp P T own o.dst σ H (fun r H'=>XReg P T N own all rest (putX N σ o.dst r) H' K) o.op) (fun σ=>XReg P T N own all rest (putX N σ o.dst (.tup [])) H K)
def qy (id : Nat) (Q : Post) : Post
 | .exit id',D,σ,H=>match Nat.beq id' id with | true=>Q .normal D σ H | false=>Q (.exit id') D σ H
 | e,D,σ,H=>Q e D σ H
def manyG : Nat -> List Oper -> Bool
 | 0,_=>true
 | _ + 1,[]=>false
 | n + 1,o :: l=>match o.guard with | none=>manyG (n + 1) l | some _=>manyG n l
def XRun (P : Program) (T : Tab) (N : Nat) (ρ : Option Nat) (own : List Nat) : Code -> Post -> List Nat -> St -> List Blk -> Prop
 | .skip,Q,D,σ,H=>Q .normal D σ H
 | .exit id,Q,D,σ,H=>Q (.exit id) D σ H
 | .ret,Q,D,σ,H=>Q .ret D σ H
 | .seq a b,Q,D,σ,H=>XRun P T N ρ own a (kv (XRun P T N ρ own b Q) Q) D σ H
 | .cond c x y,Q,D,σ,H=>bnd (ev σ c) fun r=>match r with | .bool b=>XBr b (XRun P T N ρ own x Q D σ H) (XRun P T N ρ own y Q D σ H) | _=>False
 | .block id b,Q,D,σ,H=>XRun P T N ρ own b (qy id Q) D σ H
 | .region id ops false,Q,D,σ,H=>match manyG 12 ops.toList with | true=>Walk P N ρ (.region id ops false) Q D σ H | false=>XReg P T N own ops.toList ops.toList σ H (Q .normal D)
 | c,Q,D,σ,H=>Walk P N ρ c Q D σ H
section
variable {P : Program} {T : Tab} {N : Nat} {ρ : Option Nat} {own : List Nat}
theorem gw {all : List Oper} {σ : St} {g : Option (Nat × Bool)} {A B : St -> Prop} (h : xGate all σ g A B) : gate all σ g (A σ) (B σ):=by
 unfold xGate at h
 split at h
 ·exact h
 ·rename_i j want
  obtain ⟨o',h1,h2⟩:=zb h
  obtain ⟨d,h3,h4⟩:=zb h2
  obtain ⟨r,h5,h6⟩:=zb h4
  rw [zl] at h1
  simp only [gate,h1,Option.bind_some,h3,zk,h5]
  split at h6
  ·rename_i b
   split at h6
   ·refine ⟨fun e=>?_,fun e=>?_⟩
    ·have e' : b = true:=by simpa using e
     subst e';have:=h6.t rfl;rw [wT h5] at this;exact this
    ·have e' : b = false:=by simpa using e
     subst e';have:=h6.f rfl;rw [wT h5] at this;exact this
   ·refine ⟨fun e=>?_,fun e=>?_⟩
    ·have e' : b = false:=by simpa using e
     subst e';have:=h6.f rfl;rw [wT h5] at this;exact this
    ·have e' : b = true:=by simpa using e
     subst e';have:=h6.t rfl;rw [wT h5] at this;exact this
  ·exact h6
  ·exact h6.elim
theorem XReg.sound {E : Env} (ok : zr P T) {all : List Oper} {K : St -> List Blk -> Prop} {Q : Exit -> Act -> World -> Prop} {a0 : Act} {h0 : Nat -> Option Obj} {β0 : Nat -> Value} {H0 : List Blk}
  (hQ : ∀ σ' H' h' β' a' w',K σ' H' -> Ext h0 β0 H0 h' β' H' -> SR P E h' β' H' w' -> Fits P h' β' H' σ' a' -> Keeps a0 a' -> Q .normal a' w') :
  ∀ (l : List Oper) (i : Nat) (σ : St) (H : List Blk) (h : Nat -> Option Obj) (β : Nat -> Value) (a : Act) (w : World),(∀ j,l[j]? = all[i + j]?) -> XReg P T N own all l σ H K -> Ext h0 β0 H0 h β H -> SR P E h β H w -> Fits P h β H σ a -> Keeps a0 a -> a.tmps.size = N ->
   wpOpsIn (FW ρ) 0 P all.toArray Q ((List.range l.length).map (i + ·)) a w
 | [],i,σ,H,h,β,a,w,_,hk,X,s,F,kp,hN=>hQ σ H h β a w hk X s F kp
 | o :: rest,i,σ,H,h,β,a,w,hl,hk,X,s,F,kp,hN=>by
   have ho : all.toArray[i]? = some o:=by have:=hl 0;simpa using this.symm
   have hrange : (List.range (o :: rest).length).map (i + ·) = i :: (List.range rest.length).map (i + 1 + ·):=by
    simp only [List.length_cons,List.range_succ_eq_map,List.map_cons,List.map_map,Nat.add_zero]
    congr 1
    apply List.map_congr_left;intro j _;simp;omega
   rw [hrange]
   simp only [wpOpsIn,ho]
   have ih:=fun σ' H' h' β' a' w'=>XReg.sound ok hQ rest (i + 1) σ' H' h' β' a' w' (fun j=>by have:=hl (j + 1);simpa [Nat.add_assoc,Nat.add_comm 1 j] using this)
   simp only [XReg] at hk
   rcases jK F (gw hk) with ⟨hw,hA⟩ | ⟨hw,hB⟩
   ·rw [if_pos hw]
    refine AOp.sound (hA.sound ok) s F ?_
    intro r H' h' β' w' v hk' X' s' hr
    rw [zax] at hk'
    exact ih _ H' h' β' _ w' hk' (X.trans X') s' ((F.ext X').put hN hr) ⟨(yF _ _ _).trans kp.size,(kr _ _ _).trans kp.defers⟩ ((yF _ _ _).trans hN)
   ·rw [if_neg (by rw [hw];simp)]
    rw [zax] at hB
    exact ⟨fun _ _=>trivial,ih _ H h β _ w hB X s (F.put hN vw) ⟨(yF _ _ _).trans kp.size,(kr _ _ _).trans kp.defers⟩ ((yF _ _ _).trans hN)⟩
theorem AWp.regionX {id : Nat} {ops : Array Oper} {Q : Post} {D : List Nat} {σ : St} {H : List Blk} (ok : zr P T) (x : XReg P T N own ops.toList ops.toList σ H (Q .normal D)) : AWp P N ρ (.region id ops false) Q D σ H:=by
 intro E h β a w s
 refine wpIn_region ?_
 have:=XReg.sound (ρ:=ρ) (Q:=Conc P E N h β H Q) (a0:=a) (h0:=h) (β0:=β) (H0:=H) ok (fun σ' H' h' β' a' w' k X s' F kp=>⟨D,σ',H',h',β',k,X,s',F,kp.size.trans s.size,by rw [kp.defers];exact s.df.ext X⟩)
  ops.toList 0 σ H h β a w (by simp) x (Ext.refl _ _ _) s.sr s.fits ⟨rfl,rfl⟩ s.size
 simpa using this
theorem vu (id : Nat) (Q : Post) : qy id Q = qI id Q:=by
 funext e D σ H
 cases e with
 | exit id' =>
   simp only [qy,qI]
   by_cases h : id' = id
   ·subst h;simp
   ·rw [if_neg h];cases e : Nat.beq id' id with
    | true=>exact absurd (Nat.eq_of_beq_eq_true e) h
    | false=>rfl
 | _=>rfl
theorem XRun.sound (ok : zr P T) : ∀ {c : Code} {Q : Post} {D : List Nat} {σ : St} {H : List Blk},XRun P T N ρ own c Q D σ H -> AWp P N ρ c Q D σ H
 | .skip,_,_,_,_,x=>.skip x
 | .exit _,_,_,_,_,x=>.exit x
 | .ret,_,_,_,_,x=>.ret x
 | .seq a b,Q,_,_,_,x=>.seq (AWp.mono (Q:=kv (XRun P T N ρ own b Q) Q) (XRun.sound ok (c:=a) x) fun e D σ H q=>by
   cases e with
   | normal=>exact XRun.sound ok (c:=b) (Q:=Q) q
   | _=>exact q)
 | .cond c _ _,_,_,_,_,x=>by
   obtain ⟨r,h1,h2⟩:=zb x
   split at h2
   ·exact .cond h1 (fun h=>XRun.sound ok (h2.t h)) (fun h=>XRun.sound ok (h2.f h))
   ·exact h2.elim
 | .block id b,Q,D,σ,H,x=>.block (by rw [<- vu];exact XRun.sound ok x)
 | .region id ops false,Q,D,σ,H,x=>by
   unfold XRun at x
   split at x
   ·exact x.o
   ·exact .regionX ok x
 | .region _ _ true,_,_,_,_,x=>x.o
 | .loop _,_,_,_,_,x=>x.o
 | .rangeFunc ..,_,_,_,_,x=>x.o
 | .scope _,_,_,_,_,x=>x.o
 | .label _,_,_,_,_,x=>x.o
 | .goto _,_,_,_,_,x=>x.o
 | .refuse _,_,_,_,_,x=>x.o
end
end GA
end
section
namespace GA
open Go Go.RowKit
def Ret (r0 : AV) (H0 : List Blk) : AV -> List Blk -> Prop:=fun r H=>r = r0 /\ H = H0
section
variable {P : Program} {T : Tab} {N : Nat} {ρ : Option Nat} {own : List Nat} {E : Env} {h : Nat -> Option Obj} {β : Nat -> Value} {H : List Blk} {w : World} {σ : St} {a : Act}
noncomputable def hall (h : Nat -> Option Obj) (β : Nat -> Value) (H : List Blk) (w : World) : Nat -> Option Obj:=by
 classical exact fun b=>if ∃ i,blkOf β H i = some b then w.heap[b]? else h b
theorem wZ {b i : Nat} (e : blkOf β H i = some b) : hall h β H w b = w.heap[b]?:=by
 unfold hall;rw [if_pos ⟨i,e⟩]
theorem k8 (s : SR P E h β H w) {b : Nat} {o : Obj} (e : h b = some o) : hall h β H w b = some o:=by
 unfold hall;split
 ·rename_i hh;obtain ⟨i,hi⟩:=hh;rw [s.fresh _ _ hi] at e;cases e
 ·exact e
theorem SR.all (s : SR P E h β H w) : SR P E (hall h β H w) β [] w:=by
 refine ⟨s.env,fun b o e=>?_,fun i x e=>by simp at e,fun i j x e=>by simp [blkOf] at e,fun i x e=>by simp [blkOf] at e,fun b o e=>⟨(s.frm b o e).1,?_⟩,fun i x e=>by simp [blkOf] at e⟩
 ·unfold hall at e;split at e
  ·exact e
  ·exact s.imm b o e
 ·unfold hall;split
  ·rename_i hh;obtain ⟨i,hi⟩:=hh;rw [s.fro _ _ hi] at e;cases e
  ·exact (s.frm b o e).2
def Froz (P : Program) (H : List Blk) (r r' : AV) : Prop:=
 ∀ E h β w,SR P E h β H w -> ∀ v,Rep P h β H r v -> Rep P (hall h β H w) β [] r' v
def zU (P : Program) (H : List Blk) (rs rs' : List AV) : Prop:=rs'.length = rs.length /\ ∀ (j : Nat) x,rs'[j]? = some x -> ∃ y,rs[j]? = some y /\ Froz P H y x
theorem Rep.none {β' : Nat -> Value} {r : AV} {v : Value} (x : Rep P h β [] r v) : Rep P h β' H r v:=by
 induction x with
 | bool b=>exact .bool b
 | int k n=>exact .int k n
 | nilp=>exact .nilp
 | ptr hi _=>exact hi.nil.elim
 | pim us h1 h2 h3 _ ih=>exact .pim us h1 h2 h3 ih
 | slnil=>exact .slnil
 | slemp=>exact .slemp
 | sl us h1 h2 h3 h4 h5 h6 h7 h8 _ ih=>exact .sl us h1 h2 h3 h4 h5 h6 h7 h8 ih
 | se=>exact .se
 | gr _ hi _=>exact hi.nil.elim
 | gp hi _=>exact hi.nil.elim
 | nilm=>exact .nilm
 | mp hi _=>exact hi.nil.elim
 | nilf=>exact .nilf
 | yld hi _=>exact hi.nil.elim
 | fn us h1 h2 _ ih=>exact .fn us h1 h2 ih
 | bf us h1 h2 _ ih=>exact .bf us h1 h2 ih
 | os hi _ _ _ _=>exact hi.nil.elim
 | agg us h1 h2 h3 _ ih=>exact .agg us h1 h2 h3 ih
 | tup us h1 h2 _ ih=>exact .tup us h1 h2 ih
 | im us h0 h1 h2 h3 h4 _ ih=>exact .im us h0 h1 h2 h3 h4 ih
theorem Froz.low {r : AV} (hl : r.low 0 = true) : Froz P H r r:=by
 intro E h β w s v hr
 have h0 : Rep P h β [] r v:=Rep.cut (H:=[]) (l:=H) hr hl
 have X : Ext h β [] (hall h β H w) β []:=⟨fun b o e=>k8 s e,Nat.le_refl _,by simp⟩
 exact X.rep h0
theorem zU.low : ∀ {rs : List AV},lowL 0 rs = true -> zU P H rs rs:=
 fun {rs} hl=>⟨rfl,fun j x e=>⟨x,e,Froz.low ((zo.1 hl) x (List.mem_of_getElem? e))⟩⟩
theorem zU.nil : zU P H [] []:=⟨rfl,by simp⟩
theorem zU.cons {r r' : AV} {rs rs' : List AV} (h1 : Froz P H r r') (h2 : zU P H rs rs') : zU P H (r :: rs) (r' :: rs'):=by
 refine ⟨by simp [h2.1],fun j x e=>?_⟩
 cases j with
 | zero=>simp at e;subst e;exact ⟨r,rfl,h1⟩
 | succ j=>exact h2.2 j x (by simpa using e)
theorem Froz.tup {rs rs' : List AV} (hs : zU P H rs rs') : Froz P H (.tup rs) (.tup rs'):=by
 intro E h β w s v hr
 cases hr with
 | tup us h1 h2 h3 =>
   refine .tup us (by rw [h1,hs.1]) (fun j x e=>?_) (fun j x e=>?_)
   ·obtain ⟨y,e1,_⟩:=hs.2 j x e;exact h2 j y e1
   ·obtain ⟨y,e1,e2⟩:=hs.2 j x e;exact e2 E h β w s _ (h3 j y e1)
theorem Froz.agg {rs rs' : List AV} (hone : ∀ x ∈ rs',x.one = true) (hs : zU P H rs rs') : Froz P H (.agg rs) (.agg rs'):=by
 intro E h β w s v hr
 cases hr with
 | agg us h1 h0 h2 h3 =>
   refine .agg us (by rw [h1,hs.1]) hone (fun j x e=>?_) (fun j x e=>?_)
   ·obtain ⟨y,e1,_⟩:=hs.2 j x e;exact h2 j y e1
   ·obtain ⟨y,e1,e2⟩:=hs.2 j x e;exact e2 E h β w s _ (h3 j y e1)
theorem Froz.fn {f : FuncId} {rs rs' : List AV} (hs : zU P H rs rs') : Froz P H (.fn f rs) (.fn f rs'):=by
 intro E h β w s v hr
 cases hr with
 | fn us h1 h2 h3 =>
   refine .fn us (by rw [h1,hs.1]) (fun j x e=>?_) (fun j x e=>?_)
   ·obtain ⟨y,e1,_⟩:=hs.2 j x e;exact h2 j y e1
   ·obtain ⟨y,e1,e2⟩:=hs.2 j x e;exact e2 E h β w s _ (h3 j y e1)
theorem Froz.bf {f : FuncId} {rs rs' : List AV} (hs : zU P H rs rs') : Froz P H (.bf f rs) (.bf f rs'):=by
 intro E h β w s v hr
 cases hr with
 | bf us h1 h2 h3 =>
   refine .bf us (by rw [h1,hs.1]) (fun j x e=>?_) (fun j x e=>?_)
   ·obtain ⟨y,e1,_⟩:=hs.2 j x e;exact h2 j y e1
   ·obtain ⟨y,e1,e2⟩:=hs.2 j x e;exact e2 E h β w s _ (h3 j y e1)
theorem Froz.pim {rs rs' : List AV} (hone : ∀ x ∈ rs',x.one = true) (hs : zU P H rs rs') : Froz P H (.pim rs) (.pim rs'):=by
 intro E h β w s v hr
 cases hr with
 | pim us h0 h1 h2 h3 =>
   refine .pim us hone (k8 s h1) (fun j x e=>?_) (fun j x e=>?_)
   ·obtain ⟨y,e1,_⟩:=hs.2 j x e;exact h2 j y e1
   ·obtain ⟨y,e1,e2⟩:=hs.2 j x e;exact e2 E h β w s _ (h3 j y e1)
theorem Froz.ptr {i o : Nat} {cs cs' : List AV} (hb : lget H i = some (.cells cs)) (hone : ∀ x ∈ cs',x.one = true) (hs : zU P H (cs.drop o) cs') : Froz P H (.ptr i o) (.pim cs'):=by
 rw [zl] at hb
 intro E h β w s v hr
 cases hr with
 | @ptr _ _ b hi h1 =>
   have hβ:=h1 cs hb
   obtain ⟨b',c,t,h2,h3,h4,h5,us,h6,h7⟩:=s.blk i _ hb
   rw [hβ] at h2;cases h2
   have hbo : blkOf β H i = some b:=by simp only [blkOf,hb,hβ];rfl
   refine .pim (fun j=>us (o + j)) hone ((wZ hbo).trans h3) (fun j x e=>?_) (fun j x e=>?_)
   ·obtain ⟨y,e1,_⟩:=hs.2 j x e;rw [List.getElem?_drop] at e1;exact h6 _ y e1
   ·obtain ⟨y,e1,e2⟩:=hs.2 j x e;rw [List.getElem?_drop] at e1;exact e2 E h β w s _ (h7 _ y e1)
theorem Froz.mp {i : Nat} {es : List (Int × AV)} {vs : List AV} (hb : lget H i = some (.map es)) (hs : zU P H (es.map (·.2)) vs) : Froz P H (.mp i) (.im (es.map (·.1)) vs):=by
 rw [zl] at hb
 intro E h β w s v hr
 cases hr with
 | @mp _ r hi h1 =>
   have hβ:=h1 _ hb rfl
   obtain ⟨r',ents,clock,h2,h3,h4,hsz,us,h5⟩:=s.blk i _ hb
   rw [hβ] at h2;cases h2
   have hbo : blkOf β H i = some r:=by simp only [blkOf,hb,hβ];rfl
   refine .im us ((wZ hbo).trans h3) (by rw [hs.1,List.length_map,List.length_map]) (by rw [hsz,List.length_map]) h4 (fun j q x e1 e2=>?_) (fun j x e=>?_)
   ·rw [List.getElem?_map] at e1
    cases he : es[j]? with
    | none=>rw [he] at e1;cases e1
    | some p=>obtain ⟨q',y⟩:=p;rw [he] at e1;cases e1;exact (h5 j q' y he).2
   ·obtain ⟨y,e1,e2⟩:=hs.2 j x e
    rw [List.getElem?_map] at e1
    cases he : es[j]? with
    | none=>rw [he] at e1;cases e1
    | some p=>obtain ⟨q',y'⟩:=p;rw [he] at e1;cases e1;exact e2 E h β w s _ (h5 j q' _ he).1
theorem Froz.gr {i n : Nat} {t : TypeId} {nl : Bool} {els els' : List AV} (hb : lget H i = some (.grow t nl els)) (hn : els.length = n) (hlen : els'.length = els.length) (hc : ∀ e ∈ els',e.cells.length = sz P t) (hone : ∀ x ∈ flat els',x.one = true)
  (hs : zU P H (flat els) (flat els')) : Froz P H (.gr i n) (.sl nl els'):=by
 rw [zl] at hb
 intro E h β w s v hr
 cases hr with
 | gr ho hi hv =>
   obtain ⟨h1,h2⟩:=hv _ _ _ hb
   have hβ:=h2 hn
   subst hβ
   rcases s.blk i _ hb with ⟨rfl,rfl,h3⟩ | ⟨rfl,rfl,b,h3⟩ | ⟨rfl,b,cap,c,h3,h4,h5,h6,h7,h8,h9,h10,h11,us,h12,h13⟩
   ·rw [h3]
    cases els' with | cons _ _=>simp at hlen | nil=>exact .slnil
   ·rw [h3]
    cases els' with | cons _ _=>simp at hlen | nil=>exact .slemp
   ·rw [h3]
    cases els' with
    | nil =>
      have : els.length = 0:=by simpa using hlen.symm
      rw [this];exact .slemp
    | cons e0 l0 =>
      have hbo : blkOf β H i = some b:=by simp only [blkOf,hb,h3,anchor];rw [if_neg (by omega)]
      refine .sl us (by rw [hlen]) (by simp) ((wZ hbo).trans h5) hc h9 hone (by rw [hlen];exact h6) (fun j x e=>?_) (fun j x e=>?_)
      ·obtain ⟨y,e1,_⟩:=hs.2 j x e;rw [Nat.zero_add];exact h12 j y e1
      ·obtain ⟨y,e1,e2⟩:=hs.2 j x e;exact e2 E h β w s _ (h13 j y e1)
theorem Froz.grow {i n : Nat} {t : TypeId} {nl : Bool} {els : List AV} (hb : lget H i = some (.grow t nl els)) (hn : els.length = n) (hl : lowL 0 els = true) : Froz P H (.gr i n) (.sl nl els):=by
 intro E h β w s v hr
 have hb':=hb;rw [zl] at hb'
 cases hr with
 | gr ho hi hv =>
   rcases s.blk i _ hb' with ⟨rfl,rfl,_⟩ | ⟨rfl,rfl,_⟩ | ⟨rfl,b,cap,c,h3,h4,h5,h6,h7,h8,h9,h10,h11,us,h12,h13⟩
   ·exact Froz.gr hb hn rfl (by simp) (by simp [flat]) ⟨rfl,by simp [flat]⟩ E h β w s v (.gr ho hi hv)
   ·exact Froz.gr hb hn rfl (by simp) (by simp [flat]) ⟨rfl,by simp [flat]⟩ E h β w s v (.gr ho hi hv)
   ·exact Froz.gr hb hn rfl h10 h11 (zU.low (by rw [zo];exact y8.1 hl)) E h β w s v (.gr ho hi hv)
def xRes (T : Tab) (σ : St) (H : List Blk) : List ResultVar -> (List AV -> Prop) -> Prop
 | [],k=>k []
 | .tmp t :: l,k=>bnd (σ t) fun r=>xRes T σ H l fun rs=>k (r :: rs)
 | .cell a t :: l,k=>bnd (σ a) fun p=>xLoad T t H p fun r=>xRes T σ H l fun rs=>k (r :: rs)
structure XOut (P : Program) (H : List Blk) (r r0 : AV) : Prop where
 o : Froz P H r r0
def XFn (P : Program) (T : Tab) (res : List ResultVar) (r0 : AV) : Post:=fun e D σ H =>
 match e,D with
 | .normal,[] | .ret,[]=>xRes T σ H res fun rs=>XOut P H (pack rs) r0
 | _,_=>False
theorem zaZ {t : TypeId} {p : AV} {k k' : AV -> Prop} (x : yn P t H p k) (hk : ∀ r,k r -> k' r) : yn P t H p k':=by
 unfold yn at x ⊢
 refine zh x fun ti _ x=>zh x fun cs _ x=>?_
 split at x
 ·rename_i e;rw [if_pos e];exact ⟨x.1,hk _ x.2⟩
 ·rename_i e;rw [if_neg e];exact zh x fun _ _ x=>hk _ x
theorem jn (ok : zr P T) : ∀ {l : List ResultVar} {k : List AV -> Prop},xRes T σ H l k -> resA P σ H l k
 | [],_,h=>h
 | .tmp t :: l,k,h=>zh h fun _ _ h1=>jn ok h1
 | .cell a t :: l,k,h=>zh h fun _ _ h1=>zaZ (vZ ok h1) fun _ h2=>jn ok h2
structure Comp (P : Program) (f : FuncId) (rs : List AV) (r : AV) : Prop where
 lo : lowL 0 rs = true
 o : zE P f rs [] (Ret r [])
def argX (rs : List AV) : St:=fun t=>lget rs t
theorem zac (rs : List AV) : argX rs = argsSt rs:=by funext t;exact zl _ _
theorem zf.ret {f : FuncId} {rs : List AV} {r0 : AV} {k : AV -> List Blk -> Prop} (x : Comp P f rs r0) (hk : k r0 H) : zf P f rs H k:=by
 refine ⟨x.o.1,fun E h β w vs s hr=>?_⟩
 classical
 let E' : Env:=⟨E.b,fun b=>if ∃ i,blkOf β H i = some b then w.heap[b]? else E.fr b,E.en⟩
 have s0 : SR P E' h β [] w:=by
  refine ⟨s.env,s.imm,fun i x e=>by simp at e,fun i j x e=>by simp [blkOf] at e,fun i x e=>by simp [blkOf] at e,fun b o e=>?_,fun i x e=>by simp [blkOf] at e⟩
  simp only [E'] at e
  split at e
  ·rename_i hh;obtain ⟨i,hi⟩:=hh;exact ⟨e,s.fresh _ _ hi⟩
  ·exact s.frm b o e
 have hr0 : RepL P h β [] rs vs:=⟨hr.1,fun j y e=>by
  obtain ⟨v,e1,e2⟩:=hr.2 j y e
  exact ⟨v,e1,Rep.cut (H:=[]) (l:=H) e2 ((zo.1 x.lo) y (List.mem_of_getElem? e))⟩⟩
 refine (x.o.2 E' h β w vs s0 hr0).mono ?_
 rintro e w' ⟨r,H',h',β',v,rfl,⟨rfl,rfl⟩,X,s',hrep⟩
 have X' : Ext h β H h' β H:=⟨X.imm,Nat.le_refl _,fun i x x' e e'=>by rw [e] at e';cases e';exact Blk.to_refl _ _ _⟩
 have hfr : ∀ i b o,blkOf β H i = some b -> w.heap[b]? = some o -> w'.heap[b]? = some o /\ h' b = none:=fun i b o e eo=>s'.frm b o (by simp only [E'];rw [if_pos ⟨i,e⟩];exact eo)
 have hown : ∀ i b,blkOf β H i = some b -> w'.heap[b]? = w.heap[b]?:=fun i b e=>by
  have hlt:=s.lt e
  have : w.heap[b]? = some w.heap[b]:=Array.getElem?_eq_getElem hlt
  rw [(hfr i b _ e this).1,this]
 refine ⟨r,H,h',β,v,rfl,hk,X',⟨s'.env,s'.imm,fun i x e=>?_,s.own,fun i b e=>?_,fun b o e=>?_,s.fro⟩,hrep.none⟩
 ·exact (s.blk i x e).keep X' rfl fun hd hd' b hb=>hown i b (by unfold blkOf;rw [e];cases x <;> first|exact absurd rfl hd|exact absurd rfl hd'|exact hb)
 ·have hlt:=s.lt e
  exact (hfr i b _ e (Array.getElem?_eq_getElem hlt)).2
 ·refine s'.frm b o ?_
  simp only [E'];rw [if_neg];exact e
  rintro ⟨i,hi⟩;rw [s.fro _ _ hi] at e;cases e
mutual
def AV.plain : AV -> Bool
 | .bool _ | .int _ _ | .nilp | .nilm | .nilf=>true
 | .sl true []=>true
 | .agg cs | .tup cs=>qO cs
 | _=>false
def qO : List AV -> Bool
 | []=>true
 | x :: l=>x.plain && qO l
end
theorem wu : ∀ {l : List AV},qO l = true ↔ ∀ x ∈ l,x.plain = true
 | []=>by simp [qO]
 | x :: l=>by simp [qO,wu (l:=l)]
theorem Rep.plain {h' : Nat -> Option Obj} {β' : Nat -> Value} {H' : List Blk} {r : AV} {v : Value} (x : Rep P h β H r v) (hp : r.plain = true) : Rep P h' β' H' r v:=by
 induction x with
 | bool b=>exact .bool b
 | int k n=>exact .int k n
 | nilp=>exact .nilp
 | nilm=>exact .nilm
 | nilf=>exact .nilf
 | slnil=>exact .slnil
 | agg us h1 h2 h3 _ ih =>
   simp only [AV.plain] at hp;rw [wu] at hp
   exact .agg us h1 h2 h3 fun j x e=>ih j x e (hp x (List.mem_of_getElem? e))
 | tup us h1 h2 _ ih =>
   simp only [AV.plain] at hp;rw [wu] at hp
   exact .tup us h1 h2 fun j x e=>ih j x e (hp x (List.mem_of_getElem? e))
 | _=>simp [AV.plain] at hp
theorem zf.lend {f : FuncId} {rs rs' : List AV} {r0 : AV} {k : AV -> List Blk -> Prop} (x : Comp P f rs' r0) (hf : zU P H rs rs') (hp : r0.plain = true) (hk : k r0 H) : zf P f rs H k:=by
 refine ⟨x.o.1,fun E h β w vs s hr=>?_⟩
 have hr0 : RepL P (hall h β H w) β [] rs' vs:=⟨by rw [hf.1];exact hr.1,fun j y e=>by
  obtain ⟨z,e1,e2⟩:=hf.2 j y e
  obtain ⟨v,e3,e4⟩:=hr.2 j z e1
  exact ⟨v,e3,e2 E h β w s v e4⟩⟩
 refine (x.o.2 E _ β w vs s.all hr0).mono ?_
 rintro e w' ⟨r,H',h',β',v,rfl,⟨rfl,rfl⟩,X,s',hrep⟩
 have hown : ∀ i b,blkOf β H i = some b -> w'.heap[b]? = w.heap[b]?:=fun i b e=>by
  have hlt:=s.lt e
  have e1 : w.heap[b]? = some w.heap[b]:=Array.getElem?_eq_getElem hlt
  have e2:=s'.imm b _ (X.imm b _ ((wZ (h:=h) (w:=w) e).trans e1))
  rw [e2,e1]
 refine ⟨r,H,h,β,v,rfl,hk,Ext.refl _ _ _,⟨s'.env,fun b o e=>s'.imm b o (X.imm b o (k8 s e)),fun i x e=>?_,s.own,s.fresh,fun b o e=>⟨(s'.frm b o e).1,(s.frm b o e).2⟩,s.fro⟩,hrep.plain hp⟩
 exact (s.blk i x e).keep (Ext.refl _ _ _) rfl fun hd hd' b hb=>hown i b (by unfold blkOf;rw [e];cases x <;> first|exact absurd rfl hd|exact absurd rfl hd'|exact hb)
end
def SubX : List (Nat × AV) -> St -> Prop
 | [],_=>True
 | (t,r) :: l,σ=>σ t = some r /\ SubX l σ
structure zu {G : Type} (I : G -> Prop) (L : G -> List (Nat × AV)) (hp : G -> List Blk) (μ : G -> Nat) (g : G) (D : List Nat) (D' : List Nat) (σ' : St) (H' : List Blk) : Prop where
 d : D' = D
 o : ∃ g',I g' /\ μ g' < μ g /\ hp g' = H' /\ SubX (L g') σ'
section
variable {P : Program} {T : Tab} {N : Nat} {ρ : Option Nat} {D : List Nat} {σ : St} {H : List Blk}
theorem yz : ∀ {l : List (Nat × AV)} {σ : St},SubX l σ -> ∀ t r,stX l t = some r -> σ t = some r
 | [],_,_,_,_,e=>by cases e
 | (u,x) :: l,σ,h,t,r,e=>by
   simp only [stX,yl,upd] at e
   split at e
   ·rename_i h1;subst h1;cases e;exact h.1
   ·exact yz h.2 t r e
theorem Walk.loop {c : Code} {Q : Post} {G : Type} (ok : zr P T) (own : List Nat) (I : G -> Prop) (L : G -> List (Nat × AV)) (hp : G -> List Blk) (μ : G -> Nat) (g0 : G) (h0 : I g0) (hH : hp g0 = H) (hs : SubX (L g0) σ)
  (round : ∀ g,I g -> XRun P T N ρ own c (kv (zu I L hp μ g D) Q) D (stX (L g)) (hp g)) : Walk P N ρ (.loop c) Q D σ H:=by
 constructor
 refine AWp.loop (G:={g : G // I g}) (fun g=>stX (L g.1)) (fun g=>hp g.1) (fun g=>μ g.1) ⟨g0,h0⟩ (yz hs) hH fun g=>?_
 refine (XRun.sound ok (round g.1 g.2)).mono fun e D' σ' H' q=>?_
 cases e with
 | normal=>obtain ⟨h1,g',h2,h3,h4,h5⟩:=q;exact ⟨h1,⟨g',h2⟩,h3,h4,yz h5⟩
 | _=>exact q
theorem zu.go {G : Type} {I : G -> Prop} {L : G -> List (Nat × AV)} {hp : G -> List Blk} {μ : G -> Nat} {g : G} (g' : G) (h1 : I g') (h2 : μ g' < μ g) (h3 : hp g' = H) (h4 : SubX (L g') σ) : zu I L hp μ g D D σ H:=⟨rfl,g',h1,h2,h3,h4⟩
theorem XBr.tt {A B : Prop} (h : A) : XBr true A B:=⟨fun _=>h,nofun⟩
theorem XBr.ff {A B : Prop} (h : B) : XBr false A B:=⟨nofun,fun _=>h⟩
theorem XBr.yes {c : Bool} {A B : Prop} (e : c = true) (h : A) : XBr c A B:=by subst e;exact .tt h
theorem XBr.no {c : Bool} {A B : Prop} (e : c = false) (h : B) : XBr c A B:=by subst e;exact .ff h
theorem XBr.dec {p : Prop} [Decidable p] {A B : Prop} (h1 : p -> A) (h2 : ¬ p -> B) : XBr (decide p) A B:=⟨fun h=>h1 (of_decide_eq_true h),fun h=>h2 (of_decide_eq_false h)⟩
theorem XBr.beq {a b : Int} {A B : Prop} (h1 : a = b -> A) (h2 : a ≠ b -> B) : XBr (a == b) A B:=⟨fun h=>h1 (by simpa using h),fun h=>h2 (by simpa using h)⟩
theorem XBr.bne {a b : Int} {A B : Prop} (h1 : a ≠ b -> A) (h2 : a = b -> B) : XBr (a != b) A B:=⟨fun h=>h1 (by simpa using h),fun h=>h2 (by simpa using h)⟩
theorem XBr.not {b : Bool} {A B : Prop} (h : XBr b B A) : XBr (!b) A B:=⟨fun e=>h.2 (by simpa using e),fun e=>h.1 (by simpa using e)⟩
theorem XBr.mk' {b : Bool} {A B : Prop} (h1 : b = true -> A) (h2 : b = false -> B) : XBr b A B:=⟨h1,h2⟩
theorem XInt.i64 {x : Int} {k : AV -> Prop} (h1 : -9223372036854775808 <= x) (h2 : x <= 9223372036854775807) (h : k (.int .i64 x)) : XInt .i64 x k:=by
 refine ⟨?_⟩
 have : IntKind.i64.wrap x = x:=by
  simp only [IntKind.wrap,IntKind.bits,IntKind.signed];simp;omega
 rw [this];exact h
theorem XIx.map {α : Type} [Inhabited α] {f : α -> AV} {xs : List α} {n : Int} {w : Nat} {k : AV -> Prop} (h1 : 0 <= n) (h2 : n < xs.length) (hw : ∀ x,(f x).cells.length = w) (h : k (.pim (f (xs.getD n.toNat default)).cells)) : XIx (xs.map f) n w k:=by
 have e : nth (xs.map f) n = f (xs.getD n.toNat default):=by
  unfold nth
  have : n.toNat < xs.length:=by omega
  rw [List.getD_eq_getElem?_getD,List.getD_eq_getElem?_getD,List.getElem?_map,List.getElem?_eq_getElem this];rfl
 exact ⟨h1,by simpa using h2,by rw [e];exact hw _,by rw [e];exact h⟩
theorem XIx.nat {α : Type} [Inhabited α] {f : α -> AV} {xs : List α} {i w : Nat} {k : AV -> Prop} (h2 : i < xs.length) (hw : ∀ x,(f x).cells.length = w) (h : k (.pim (f (xs.getD i default)).cells)) : XIx (xs.map f) (i : Int) w k:=
 XIx.map (by omega) (by omega) hw h
theorem ft {cs : List AV} {off : Nat} {c : AV} (h : cs[off]? = some c) : cs.drop off = c :: cs.drop (off + 1):=by
 obtain ⟨h1,h2⟩:=List.getElem?_eq_some_iff.1 h
 rw [List.drop_eq_getElem_cons h1,h2]
theorem XArr.at {cs : List AV} {n : Int} {m w : Nat} {k : AV -> Prop} (c : AV) (h1 : 0 <= n) (h2 : n < m) (hc : cs[n.toNat * w]? = some c) (h : k (.pim (c :: cs.drop (n.toNat * w + 1)))) : XArr (.pim cs) n m w k:=
 ⟨h1,h2,by show k (.pim (cs.drop _));rw [ft hc];exact h⟩
theorem XArr.ptr {i o : Nat} {n : Int} {m w : Nat} {k : AV -> Prop} (h1 : 0 <= n) (h2 : n < m) (h : k (.ptr i (o + n.toNat * w))) : XArr (.ptr i o) n m w k:=⟨h1,h2,h⟩
theorem XArr.pim {cs : List AV} {n : Int} {m w : Nat} {k : AV -> Prop} (h1 : 0 <= n) (h2 : n < m) (h : k (.pim (cs.drop (n.toNat * w)))) : XArr (.pim cs) n m w k:=⟨h1,h2,h⟩
theorem za7 {cs : List AV} {off : Nat} {k : List AV -> Prop} (c : AV) (hc : cs[off]? = some c) (h : k (c :: cs.drop (off + 1))) : xdrop off cs k:=by
 have : ∀ {off : Nat} {cs : List AV},off <= cs.length -> k (cs.drop off) -> xdrop off cs k:=by
  intro off;induction off with
  | zero=>intro cs _ h;exact h
  | succ n ih=>intro cs hl h;cases cs with
    | nil=>simp at hl
    | cons c cs=>exact ih (by simpa using hl) (by simpa using h)
 exact this (by have:=(List.getElem?_eq_some_iff.1 hc).1;omega) (by rw [ft hc];exact h)
theorem XGet.map {α : Type} [Inhabited α] {f : α -> AV} {xs : List α} {n e : Nat} {k : List AV -> Prop} (h1 : n = xs.length) (h2 : e < n) (h : k (f (xs.getD e default)).cells) : XGet (xs.map f) n e k:=by
 have e' : (xs.map f).getD e default = f (xs.getD e default):=by
  have : e < xs.length:=by omega
  rw [List.getD_eq_getElem?_getD,List.getD_eq_getElem?_getD,List.getElem?_map,List.getElem?_eq_getElem this];rfl
 exact ⟨by simpa using h1,h2,by rw [e'];exact h⟩
theorem XPut.map {α : Type} {f : α -> AV} {xs : List α} {n e : Nat} {v : AV} {k : List AV -> Prop} (x : α) (hv : v = f x) (h1 : n = xs.length) (h2 : e < n) (h : k ((xs.set e x).map f)) : XPut (xs.map f) n e v k:=
 ⟨by simpa using h1,h2,by subst hv;rw [<- List.map_set];exact h⟩
theorem je {α : Type} {f : α -> AV} {n : Nat} (h1 : ∀ x,(f x).cells.length = n) (h2 : ∀ x,(f x).isTup = false) : ∀ (xs : List α),wide n (xs.map f) = true
 | []=>rfl
 | x :: xs=>by simp [wide,h1,h2,je h1 h2 xs]
theorem zT {α : Type} {f : α -> AV} {n : Nat} (hf : ∀ x,(f x).low n = true) (xs : List α) : lowL n (xs.map f) = true:=by
 rw [zo];intro x hx;obtain ⟨y,_,rfl⟩:=List.mem_map.1 hx;exact hf y
end
end GA
namespace GA
open Go
section
variable {P : Program} {H : List Blk}
theorem XOut.bool {b b' : Bool} (e : b = b') : XOut P H (.bool b) (.bool b'):=by subst e;exact ⟨.low rfl⟩
theorem XOut.int {q : IntKind} {n n' : Int} (e : n = n') : XOut P H (.int q n) (.int q n'):=by subst e;exact ⟨.low rfl⟩
end
end GA
namespace GA
open Go
theorem ja {α : Type} [Inhabited α] {xs : List α} {i : Nat} (h : i < xs.length) : xs.take (i + 1) = xs.take i ++ [xs.getD i default]:=by
 rw [List.take_add_one,List.getElem?_eq_getElem h,List.getD_eq_getElem?_getD,List.getElem?_eq_getElem h];rfl
abbrev ints (xs : List Int) : List AV:=xs.map (.int .i64)
theorem lowI {n : Nat} (xs : List Int) : lowL n (ints xs) = true:=zT (fun _=>rfl) xs
theorem yx (xs : List Int) : wide 1 (ints xs) = true:=je (f:=.int .i64) (n:=1) (fun _=>rfl) (fun _=>rfl) xs
end GA
namespace GA
open Go
theorem ints_at {xs : List Int} {i : Nat} (h : i < xs.length) (b : List AV) : (ints xs ++ b)[i * 1]? = some (.int .i64 (xs.getD i 0)):=by
 rw [Nat.mul_one,List.getElem?_append_left (by simpa using h),List.getElem?_map,List.getElem?_eq_getElem h,List.getD_eq_getElem?_getD,List.getElem?_eq_getElem h];rfl
theorem XArr.ints {xs : List Int} {n : Int} {m : Nat} {k : AV -> Prop} (h1 : 0 <= n) (h2 : n < m) (hm : (m : Int) <= xs.length) (h : k (.pim (.int .i64 (xs.getD n.toNat 0) :: (GA.ints xs).drop (n.toNat * 1 + 1)))) : XArr (.pim (GA.ints xs)) n m 1 k:=
 XArr.at _ h1 h2 (by have:=ints_at (xs:=xs) (i:=n.toNat) (by omega) [];simpa using this) h
end GA
namespace GA
open Go
theorem XArr.pim0 {c : AV} {cs : List AV} {m w : Nat} {k : AV -> Prop} (h : k (.pim (c :: cs))) : XArr (.pim (c :: cs)) 0 (m + 1) w k:=⟨by omega,by omega,by show k (.pim (List.drop (0 * w) _));rw [Nat.zero_mul];exact h⟩
theorem XArr.pim1 {c d : AV} {cs : List AV} {m : Nat} {k : AV -> Prop} (h : k (.pim (d :: cs))) : XArr (.pim (c :: d :: cs)) 1 (m + 2) 1 k:=⟨by omega,by omega,h⟩
end GA
end
section
namespace GA
open Go Go.RowKit
section
variable {P : Program} {t : TypeId} {ag : Bool} {n : Nat} {z : Option AV} {q : Option Nat}
def qL (P : Program) (t : TypeId) : Nat -> List (Nat × Bool × Nat) -> Prop
 | _,[]=>True
 | i,x :: l=>fldK P t i = some x /\ qL P t (i + 1) l
theorem qL.get : ∀ {fs : List (Nat × Bool × Nat)} {j i : Nat} {x : Nat × Bool × Nat},qL P t j fs -> lget fs i = some x -> fldK P t (j + i) = some x
 | _ :: _,j,0,x,h,e=>by cases e;exact h.1
 | _ :: l,j,i + 1,x,h,e=>by
   have:=qL.get (fs:=l) (j:=j + 1) (i:=i) h.2 e
   rwa [show j + 1 + i = j + (i + 1) by omega] at this
def isStT (P : Program) (t : TypeId) : Bool:=match P.underlying t with | some (.struct _)=>true | _=>false
theorem place_st (hu : isStT P t = true) {i : Nat} {x : Nat × Bool × Nat} (h : fldK P t i = some x) : yQ P t i = some (x.1,x.2.2):=by
 unfold isStT at hu;split at hu
 ·rename_i e;unfold yQ;rw [e];simp [h]
 ·cases hu
theorem TeOk.st {fs : List (Nat × Bool × Nat)} (h1 : tyK P t = some (ag,n)) (h2 : sz P t = n) (h3 : ∀ z',z = some z' -> zI P t = some z') (hu : isStT P t = true) (hf : qL P t 0 fs) (ha : allK P t = true) (hq : ∀ n,q = some n -> jt P t = some n) : TeOk P t ⟨ag,n,z,.st fs,q⟩:=
 ⟨h1,h2,h3,⟨fun i x e=>by have:=hf.get e;rw [Nat.zero_add] at this;exact ⟨this,place_st hu this⟩,ha⟩,hq⟩
theorem TeOk.ar {m : Nat} {el : TypeId} {ag' : Bool} {w : Nat} (h1 : tyK P t = some (ag,n)) (h2 : sz P t = n) (h3 : ∀ z',z = some z' -> zI P t = some z') (hu : P.underlying t = some (.array m el)) (hf : arK P t = some (m,ag',w)) (ha : allK P t = true) (hq : ∀ n,q = some n -> jt P t = some n) : TeOk P t ⟨ag,n,z,.ar m ag' w,q⟩:=
 ⟨h1,h2,h3,⟨hf,ha,fun i=>by unfold yQ;rw [hu];simp [hf]⟩,hq⟩
theorem qsome {n n' : Nat} (h : jt P t = some n) : some n = some n' -> jt P t = some n':=fun e=>e ▸ h
theorem qnone {n' : Nat} : none = some n' -> jt P t = some n':=nofun
theorem zsome {z z' : AV} (h : zI P t = some z) : some z = some z' -> zI P t = some z':=fun e=>e ▸ h
end
end GA
end
section
namespace GA
open Go Go.Proofs
set_option maxRecDepth 100000
@[irreducible] def rep (n : Nat) (x : AV) : List AV:=List.replicate n x
section
variable {P : Program} {t n : Nat} {ag : Bool} {z : AV}
theorem TeOk.c (h1 : tyK P t = some (ag,n):=by kernel_rfl) (h2 : sz P t = n:=by kernel_rfl) (h3 : zI P t = some z:=by kernel_rfl) : TeOk P t ⟨ag,n,some z,.oth,none⟩:=⟨h1,h2,fun _=>zsome h3,trivial,fun _=>qnone⟩
theorem TeOk.i {q : IntKind} (h1 : tyK P t = some (ag,n):=by kernel_rfl) (h2 : sz P t = n:=by kernel_rfl) (h3 : zI P t = some z:=by kernel_rfl) (h4 : P.underlying t = some (.int q):=by kernel_rfl) : TeOk P t ⟨ag,n,some z,.int q,none⟩:=⟨h1,h2,fun _=>zsome h3,h4,fun _=>qnone⟩
theorem TeOk.bo (h1 : tyK P t = some (ag,n):=by kernel_rfl) (h2 : sz P t = n:=by kernel_rfl) (h3 : zI P t = some z:=by kernel_rfl) (h4 : wS P t:=by (unfold wS;kernel_rfl)) : TeOk P t ⟨ag,n,some z,.bool,none⟩:=⟨h1,h2,fun _=>zsome h3,h4,fun _=>qnone⟩
theorem TeOk.s (e : TypeId) {el w b : Nat} {ze : AV} (h1 : tyK P t = some (ag,n):=by kernel_rfl) (h2 : sz P t = n:=by kernel_rfl) (h3 : zI P t = some z:=by kernel_rfl) (h4 : slE P t = some (el,w,b):=by kernel_rfl) (h5 : slK P t = some w:=by kernel_rfl) (h6 : P.underlying t = some (.slice e):=by kernel_rfl) (h7 : zI P el = some ze:=by kernel_rfl) : TeOk P t ⟨ag,n,some z,.sl el w b ze,none⟩:=⟨h1,h2,fun _=>zsome h3,⟨h4,h5,⟨e,h6⟩,h7⟩,fun _=>qnone⟩
theorem TeOk.m {ze : AV} (h1 : tyK P t = some (ag,n):=by kernel_rfl) (h2 : sz P t = n:=by kernel_rfl) (h3 : zI P t = some z:=by kernel_rfl) (h4 : mapT P t = some ze:=by kernel_rfl) : TeOk P t ⟨ag,n,some z,.mp ze,none⟩:=⟨h1,h2,fun _=>zsome h3,h4,fun _=>qnone⟩
theorem TeOk.m2 {ze : AV} (h1 : tyK P t = some (ag,n):=by kernel_rfl) (h2 : sz P t = n:=by kernel_rfl) (h3 : zI P t = some z:=by kernel_rfl) (h4 : fu P t = some ze:=by kernel_rfl) : TeOk P t ⟨ag,n,some z,.mp2 ze,none⟩:=⟨h1,h2,fun _=>zsome h3,h4,fun _=>qnone⟩
theorem TeOk.a (el : TypeId) {m w : Nat} {ag' : Bool} (h1 : tyK P t = some (ag,n):=by kernel_rfl) (h2 : sz P t = n:=by kernel_rfl) (h3 : zI P t = some z:=by kernel_rfl) (h4 : P.underlying t = some (.array m el):=by kernel_rfl) (h5 : arK P t = some (m,ag',w):=by kernel_rfl) (h6 : allK P t = true:=by kernel_rfl) : TeOk P t ⟨ag,n,some z,.ar m ag' w,none⟩:=.ar h1 h2 (fun _=>zsome h3) h4 h5 h6 fun _=>qnone
theorem TeOk.aq (el : TypeId) {m w q : Nat} {ag' : Bool} (h1 : tyK P t = some (ag,n):=by kernel_rfl) (h2 : sz P t = n:=by kernel_rfl) (h3 : zI P t = some z:=by kernel_rfl) (h4 : P.underlying t = some (.array m el):=by kernel_rfl) (h5 : arK P t = some (m,ag',w):=by kernel_rfl) (h6 : allK P t = true:=by kernel_rfl) (h7 : jt P t = some q:=by kernel_rfl) : TeOk P t ⟨ag,n,some z,.ar m ag' w,some q⟩:=.ar h1 h2 (fun _=>zsome h3) h4 h5 h6 fun _=>qsome h7
theorem TeOk.u {fs : List (Nat × Bool × Nat)} (h1 : tyK P t = some (ag,n):=by kernel_rfl) (h2 : sz P t = n:=by kernel_rfl) (h3 : zI P t = some z:=by kernel_rfl) (h4 : isStT P t = true:=by kernel_rfl) (h5 : qL P t 0 fs:=by (repeat' first|exact trivial|refine And.intro ?_ ?_ | kernel_rfl)) (h6 : allK P t = true:=by kernel_rfl) : TeOk P t ⟨ag,n,some z,.st fs,none⟩:=.st h1 h2 (fun _=>zsome h3) h4 h5 h6 fun _=>qnone
theorem TeOk.uq {fs : List (Nat × Bool × Nat)} {q : Nat} (h1 : tyK P t = some (ag,n):=by kernel_rfl) (h2 : sz P t = n:=by kernel_rfl) (h3 : zI P t = some z:=by kernel_rfl) (h4 : isStT P t = true:=by kernel_rfl) (h5 : qL P t 0 fs:=by (repeat' first|exact trivial|refine And.intro ?_ ?_ | kernel_rfl)) (h6 : allK P t = true:=by kernel_rfl) (h7 : jt P t = some q:=by kernel_rfl) : TeOk P t ⟨ag,n,some z,.st fs,some q⟩:=.st h1 h2 (fun _=>zsome h3) h4 h5 h6 fun _=>qsome h7
end
def te1 : TE:=⟨false,1,some (.nilf),.oth,none⟩
theorem te1_ok : TeOk Tryz.prog 1 te1:=.c
def te2 : TE:=⟨false,1,some (.int .i64 0),.int .i64,none⟩
theorem te2_ok : TeOk Tryz.prog 2 te2:=.i
def te3 : TE:=⟨false,1,some (.int .i64 0),.int .i64,none⟩
theorem te3_ok : TeOk Tryz.prog 3 te3:=.i
def te4 : TE:=⟨false,1,some (.bool false),.bool,none⟩
theorem te4_ok : TeOk Tryz.prog 4 te4:=.bo
def te5 : TE:=⟨false,1,some (.int .u8 0),.int .u8,none⟩
theorem te5_ok : TeOk Tryz.prog 5 te5:=.i
def te7 : TE:=⟨true,4,some (.agg [.int .i64 0,.int .i64 0,.bool false,.int .u8 0]),.st [(0,false,1),(1,false,1),(2,false,1),(3,false,1)],none⟩
theorem te7_ok : TeOk Tryz.prog 7 te7:=.u
def te12 : TE:=⟨false,1,some (.int .u64 0),.int .u64,none⟩
theorem te12_ok : TeOk Tryz.prog 12 te12:=.i
def te18 : TE:=⟨true,1,some (.agg [.nilp]),.st [(0,false,1)],none⟩
theorem te18_ok : TeOk Tryz.prog 18 te18:=.u
def te21 : TE:=⟨false,1,some (.int .i32 0),.int .i32,none⟩
theorem te21_ok : TeOk Tryz.prog 21 te21:=.i
def te22 : TE:=⟨false,1,some (.sl true []),.sl 3 1 8 (.int .i64 0),none⟩
theorem te22_ok : TeOk Tryz.prog 22 te22:=.s 3
def te23 : TE:=⟨false,1,some (.sl true []),.sl 22 1 24 (.sl true []),none⟩
theorem te23_ok : TeOk Tryz.prog 23 te23:=.s 22
def te24 : TE:=⟨false,1,some (.sl true []),.sl 40 3 24 (.agg [.int .i64 0,.int .i64 0,.int .i64 0]),none⟩
theorem te24_ok : TeOk Tryz.prog 24 te24:=.s 40
def te25 : TE:=⟨false,1,some (.sl true []),.sl 46 1 24 (.agg [.sl true []]),none⟩
theorem te25_ok : TeOk Tryz.prog 25 te25:=.s 46
def te26 : TE:=⟨true,7,some (.agg [.int .i64 0,.int .i64 0,.int .i64 0,.int .i64 0,.sl true [],.sl true [],.sl true []]),.st [(0,false,1),(1,false,1),(2,false,1),(3,false,1),(4,false,1),(5,false,1),(6,false,1)],none⟩
theorem te26_ok : TeOk Tryz.prog 26 te26:=.u
def te27 : TE:=⟨true,7,some (.agg [.int .i64 0,.int .i64 0,.int .i64 0,.int .i64 0,.sl true [],.sl true [],.sl true []]),.st [(0,false,1),(1,false,1),(2,false,1),(3,false,1),(4,false,1),(5,false,1),(6,false,1)],none⟩
theorem te27_ok : TeOk Tryz.prog 27 te27:=.u
def te28 : TE:=⟨false,1,some (.nilf),.oth,none⟩
theorem te28_ok : TeOk Tryz.prog 28 te28:=.c
def te29 : TE:=⟨true,3,some (.agg [.int .i64 0,.int .i64 0,.int .i64 0]),.st [(0,false,1),(1,false,1),(2,false,1)],some 3⟩
theorem te29_ok : TeOk Tryz.prog 29 te29:=.uq
def te30 : TE:=⟨true,3,some (.agg [.int .i64 0,.int .i64 0,.int .i64 0]),.st [(0,false,1),(1,false,1),(2,false,1)],some 3⟩
theorem te30_ok : TeOk Tryz.prog 30 te30:=.uq
def te31 : TE:=⟨true,2,some (.agg [.int .i64 0,.int .i64 0]),.st [(0,false,1),(1,false,1)],some 2⟩
theorem te31_ok : TeOk Tryz.prog 31 te31:=.uq
def te32 : TE:=⟨true,2,some (.agg [.int .i64 0,.int .i64 0]),.st [(0,false,1),(1,false,1)],some 2⟩
theorem te32_ok : TeOk Tryz.prog 32 te32:=.uq
def te33 : TE:=⟨false,1,some (.sl true []),.sl 32 2 16 (.agg [.int .i64 0,.int .i64 0]),none⟩
theorem te33_ok : TeOk Tryz.prog 33 te33:=.s 32
def te34 : TE:=⟨false,1,some (.sl true []),.sl 23 1 24 (.sl true []),none⟩
theorem te34_ok : TeOk Tryz.prog 34 te34:=.s 23
def te35 : TE:=⟨false,1,some (.sl true []),.sl 23 1 24 (.sl true []),none⟩
theorem te35_ok : TeOk Tryz.prog 35 te35:=.s 23
def te36 : TE:=⟨false,1,some (.int .i64 0),.int .i64,none⟩
theorem te36_ok : TeOk Tryz.prog 36 te36:=.i
def te38 : TE:=⟨false,1,some (.nilf),.oth,none⟩
theorem te38_ok : TeOk Tryz.prog 38 te38:=.c
def te39 : TE:=⟨false,1,some (.nilp),.oth,none⟩
theorem te39_ok : TeOk Tryz.prog 39 te39:=.c
def te40 : TE:=⟨true,3,some (.agg [.int .i64 0,.int .i64 0,.int .i64 0]),.ar 3 false 1,some 3⟩
theorem te40_ok : TeOk Tryz.prog 40 te40:=.aq 3
def te41 : TE:=⟨true,2,some (.agg [.int .i64 0,.int .i64 0]),.st [(0,false,1),(1,false,1)],some 2⟩
theorem te41_ok : TeOk Tryz.prog 41 te41:=.uq
def te42 : TE:=⟨true,2,some (.agg [.int .i64 0,.int .i64 0]),.st [(0,false,1),(1,false,1)],some 2⟩
theorem te42_ok : TeOk Tryz.prog 42 te42:=.uq
def te43 : TE:=⟨false,1,some (.sl true []),.sl 42 2 16 (.agg [.int .i64 0,.int .i64 0]),none⟩
theorem te43_ok : TeOk Tryz.prog 43 te43:=.s 42
def te44 : TE:=⟨false,1,some (.sl true []),.sl 43 1 24 (.sl true []),none⟩
theorem te44_ok : TeOk Tryz.prog 44 te44:=.s 43
def te45 : TE:=⟨true,1,some (.agg [.sl true []]),.st [(0,false,1)],none⟩
theorem te45_ok : TeOk Tryz.prog 45 te45:=.u
def te46 : TE:=⟨true,1,some (.agg [.sl true []]),.st [(0,false,1)],none⟩
theorem te46_ok : TeOk Tryz.prog 46 te46:=.u
def te47 : TE:=⟨false,1,some (.sl true []),.sl 39 1 8 (.nilp),none⟩
theorem te47_ok : TeOk Tryz.prog 47 te47:=.s 39
def te48 : TE:=⟨false,1,some (.nilf),.oth,none⟩
theorem te48_ok : TeOk Tryz.prog 48 te48:=.c
def te49 : TE:=⟨false,1,some (.nilf),.oth,none⟩
theorem te49_ok : TeOk Tryz.prog 49 te49:=.c
def te50 : TE:=⟨false,1,some (.nilf),.oth,none⟩
theorem te50_ok : TeOk Tryz.prog 50 te50:=.c
def te51 : TE:=⟨false,1,some (.nilf),.oth,none⟩
theorem te51_ok : TeOk Tryz.prog 51 te51:=.c
def te52 : TE:=⟨false,1,some (.nilf),.oth,none⟩
theorem te52_ok : TeOk Tryz.prog 52 te52:=.c
def te54 : TE:=⟨false,1,some (.nilf),.oth,none⟩
theorem te54_ok : TeOk Tryz.prog 54 te54:=.c
def te55 : TE:=⟨false,1,some (.nilf),.oth,none⟩
theorem te55_ok : TeOk Tryz.prog 55 te55:=.c
def te56 : TE:=⟨false,1,some (.nilf),.oth,none⟩
theorem te56_ok : TeOk Tryz.prog 56 te56:=.c
def te57 : TE:=⟨false,1,some (.nilf),.oth,none⟩
theorem te57_ok : TeOk Tryz.prog 57 te57:=.c
def te58 : TE:=⟨false,1,some (.sl true []),.sl 69 2 16 (.agg [.int .i64 0,.int .i64 0]),none⟩
theorem te58_ok : TeOk Tryz.prog 58 te58:=.s 69
def te59 : TE:=⟨false,1,some (.sl true []),.sl 65 2 16 (.agg [.int .i64 0,.int .i64 0]),none⟩
theorem te59_ok : TeOk Tryz.prog 59 te59:=.s 65
def te60 : TE:=⟨true,5,some (.agg [.int .i64 0,.int .i64 0,.sl true [],.sl true [],.sl true []]),.st [(0,false,1),(1,false,1),(2,false,1),(3,false,1),(4,false,1)],none⟩
theorem te60_ok : TeOk Tryz.prog 60 te60:=.u
def te61 : TE:=⟨true,5,some (.agg [.int .i64 0,.int .i64 0,.sl true [],.sl true [],.sl true []]),.st [(0,false,1),(1,false,1),(2,false,1),(3,false,1),(4,false,1)],none⟩
theorem te61_ok : TeOk Tryz.prog 61 te61:=.u
def te62 : TE:=⟨false,1,some (.nilf),.oth,none⟩
theorem te62_ok : TeOk Tryz.prog 62 te62:=.c
def te63 : TE:=⟨true,2,some (.agg [.int .i64 0,.sl true []]),.st [(0,false,1),(1,false,1)],none⟩
theorem te63_ok : TeOk Tryz.prog 63 te63:=.u
def te64 : TE:=⟨true,2,some (.agg [.int .i64 0,.sl true []]),.st [(0,false,1),(1,false,1)],none⟩
theorem te64_ok : TeOk Tryz.prog 64 te64:=.u
def te65 : TE:=⟨true,2,some (.agg [.int .i64 0,.int .i64 0]),.ar 2 false 1,some 2⟩
theorem te65_ok : TeOk Tryz.prog 65 te65:=.aq 3
def te66 : TE:=⟨true,2,some (.agg [.int .i64 0,.int .i64 0]),.st [(0,false,1),(1,false,1)],some 2⟩
theorem te66_ok : TeOk Tryz.prog 66 te66:=.uq
def te67 : TE:=⟨true,2,some (.agg [.int .i64 0,.int .i64 0]),.st [(0,false,1),(1,false,1)],some 2⟩
theorem te67_ok : TeOk Tryz.prog 67 te67:=.uq
def te68 : TE:=⟨true,2,some (.agg [.int .i64 0,.int .i64 0]),.st [(0,false,1),(1,false,1)],some 2⟩
theorem te68_ok : TeOk Tryz.prog 68 te68:=.uq
def te69 : TE:=⟨true,2,some (.agg [.int .i64 0,.int .i64 0]),.st [(0,false,1),(1,false,1)],some 2⟩
theorem te69_ok : TeOk Tryz.prog 69 te69:=.uq
def te70 : TE:=⟨false,1,some (.nilf),.oth,none⟩
theorem te70_ok : TeOk Tryz.prog 70 te70:=.c
def te71 : TE:=⟨false,1,some (.nilf),.oth,none⟩
theorem te71_ok : TeOk Tryz.prog 71 te71:=.c
def te73 : TE:=⟨false,1,some (.nilf),.oth,none⟩
theorem te73_ok : TeOk Tryz.prog 73 te73:=.c
def te75 : TE:=⟨false,1,some (.nilf),.oth,none⟩
theorem te75_ok : TeOk Tryz.prog 75 te75:=.c
def te76 : TE:=⟨false,1,some (.nilf),.oth,none⟩
theorem te76_ok : TeOk Tryz.prog 76 te76:=.c
def te78 : TE:=⟨false,1,some (.nilf),.oth,none⟩
theorem te78_ok : TeOk Tryz.prog 78 te78:=.c
def te79 : TE:=⟨false,1,some (.nilf),.oth,none⟩
theorem te79_ok : TeOk Tryz.prog 79 te79:=.c
def te80 : TE:=⟨false,1,some (.nilf),.oth,none⟩
theorem te80_ok : TeOk Tryz.prog 80 te80:=.c
def te81 : TE:=⟨false,1,some (.nilf),.oth,none⟩
theorem te81_ok : TeOk Tryz.prog 81 te81:=.c
def te82 : TE:=⟨false,1,some (.nilf),.oth,none⟩
theorem te82_ok : TeOk Tryz.prog 82 te82:=.c
def te83 : TE:=⟨false,1,some (.nilf),.oth,none⟩
theorem te83_ok : TeOk Tryz.prog 83 te83:=.c
def te84 : TE:=⟨false,1,some (.nilf),.oth,none⟩
theorem te84_ok : TeOk Tryz.prog 84 te84:=.c
def te85 : TE:=⟨false,1,some (.sl true []),.sl 5 1 1 (.int .u8 0),none⟩
theorem te85_ok : TeOk Tryz.prog 85 te85:=.s 5
def te86 : TE:=⟨false,1,some (.sl true []),.sl 95 2 16 (.agg [.int .i64 0,.int .i64 0]),none⟩
theorem te86_ok : TeOk Tryz.prog 86 te86:=.s 95
def te87 : TE:=⟨false,1,some (.sl true []),.sl 294 3 24 (.agg [.int .i64 0,.int .i64 0,.int .i64 0]),none⟩
theorem te87_ok : TeOk Tryz.prog 87 te87:=.s 294
def te88 : TE:=⟨true,5,some (.agg [.sl true [],.int .i64 0,.int .i64 0,.sl true [],.sl true []]),.st [(0,false,1),(1,true,2),(3,false,1),(4,false,1)],none⟩
theorem te88_ok : TeOk Tryz.prog 88 te88:=.u
def te89 : TE:=⟨true,5,some (.agg [.sl true [],.int .i64 0,.int .i64 0,.sl true [],.sl true []]),.st [(0,false,1),(1,true,2),(3,false,1),(4,false,1)],none⟩
theorem te89_ok : TeOk Tryz.prog 89 te89:=.u
def te90 : TE:=⟨false,1,some (.nilf),.oth,none⟩
theorem te90_ok : TeOk Tryz.prog 90 te90:=.c
def te91 : TE:=⟨false,1,some (.nilp),.oth,none⟩
theorem te91_ok : TeOk Tryz.prog 91 te91:=.c
def te92 : TE:=⟨false,1,some (.nilf),.oth,none⟩
theorem te92_ok : TeOk Tryz.prog 92 te92:=.c
def te93 : TE:=⟨false,1,some (.nilf),.oth,none⟩
theorem te93_ok : TeOk Tryz.prog 93 te93:=.c
def te94 : TE:=⟨true,2,some (.agg [.int .i64 0,.int .i64 0]),.st [(0,false,1),(1,false,1)],some 2⟩
theorem te94_ok : TeOk Tryz.prog 94 te94:=.uq
def te95 : TE:=⟨true,2,some (.agg [.int .i64 0,.int .i64 0]),.st [(0,false,1),(1,false,1)],some 2⟩
theorem te95_ok : TeOk Tryz.prog 95 te95:=.uq
def te97 : TE:=⟨false,1,some (.nilf),.oth,none⟩
theorem te97_ok : TeOk Tryz.prog 97 te97:=.c
def te98 : TE:=⟨false,1,some (.int .i64 0),.int .i64,none⟩
theorem te98_ok : TeOk Tryz.prog 98 te98:=.i
def te100 : TE:=⟨false,1,some (.nilf),.oth,none⟩
theorem te100_ok : TeOk Tryz.prog 100 te100:=.c
def te102 : TE:=⟨false,1,some (.nilf),.oth,none⟩
theorem te102_ok : TeOk Tryz.prog 102 te102:=.c
def te103 : TE:=⟨false,1,some (.nilf),.oth,none⟩
theorem te103_ok : TeOk Tryz.prog 103 te103:=.c
def te104 : TE:=⟨true,3,some (.agg [.int .i64 0,.int .i64 0,.int .i64 0]),.st [(0,false,1),(1,false,1),(2,false,1)],some 3⟩
theorem te104_ok : TeOk Tryz.prog 104 te104:=.uq
def te105 : TE:=⟨true,3,some (.agg [.int .i64 0,.int .i64 0,.int .i64 0]),.st [(0,false,1),(1,false,1),(2,false,1)],some 3⟩
theorem te105_ok : TeOk Tryz.prog 105 te105:=.uq
def te106 : TE:=⟨false,1,some (.sl true []),.sl 105 3 24 (.agg [.int .i64 0,.int .i64 0,.int .i64 0]),none⟩
theorem te106_ok : TeOk Tryz.prog 106 te106:=.s 105
def te107 : TE:=⟨false,1,some (.sl true []),.sl 429 2 32 (.agg [.int .i64 0,.sl true []]),none⟩
theorem te107_ok : TeOk Tryz.prog 107 te107:=.s 429
def te108 : TE:=⟨true,4,some (.agg [.int .i64 0,.sl true [],.int .i64 0,.sl true []]),.st [(0,false,1),(1,false,1),(2,false,1),(3,false,1)],none⟩
theorem te108_ok : TeOk Tryz.prog 108 te108:=.u
def te109 : TE:=⟨true,4,some (.agg [.int .i64 0,.sl true [],.int .i64 0,.sl true []]),.st [(0,false,1),(1,false,1),(2,false,1),(3,false,1)],none⟩
theorem te109_ok : TeOk Tryz.prog 109 te109:=.u
def te110 : TE:=⟨false,1,some (.int .i64 0),.int .i64,none⟩
theorem te110_ok : TeOk Tryz.prog 110 te110:=.i
def te112 : TE:=⟨false,1,some (.nilf),.oth,none⟩
theorem te112_ok : TeOk Tryz.prog 112 te112:=.c
def te113 : TE:=⟨false,1,some (.nilf),.oth,none⟩
theorem te113_ok : TeOk Tryz.prog 113 te113:=.c
def te114 : TE:=⟨false,1,some (.nilf),.oth,none⟩
theorem te114_ok : TeOk Tryz.prog 114 te114:=.c
def te116 : TE:=⟨false,1,some (.nilf),.oth,none⟩
theorem te116_ok : TeOk Tryz.prog 116 te116:=.c
def te117 : TE:=⟨false,1,some (.nilf),.oth,none⟩
theorem te117_ok : TeOk Tryz.prog 117 te117:=.c
def te118 : TE:=⟨false,1,some (.sl true []),.sl 330 6 48 (.agg [.int .i64 0,.int .i64 0,.int .i64 0,.int .i64 0,.int .i64 0,.int .i64 0]),none⟩
theorem te118_ok : TeOk Tryz.prog 118 te118:=.s 330
def te119 : TE:=⟨false,1,some (.sl true []),.sl 473 3 24 (.agg [.int .i64 0,.int .i64 0,.int .i64 0]),none⟩
theorem te119_ok : TeOk Tryz.prog 119 te119:=.s 473
def te120 : TE:=⟨true,5,some (.agg [.int .i64 0,.int .i64 0,.int .i64 0,.sl true [],.sl true []]),.st [(0,false,1),(1,false,1),(2,false,1),(3,false,1),(4,false,1)],none⟩
theorem te120_ok : TeOk Tryz.prog 120 te120:=.u
def te121 : TE:=⟨true,5,some (.agg [.int .i64 0,.int .i64 0,.int .i64 0,.sl true [],.sl true []]),.st [(0,false,1),(1,false,1),(2,false,1),(3,false,1),(4,false,1)],none⟩
theorem te121_ok : TeOk Tryz.prog 121 te121:=.u
def te122 : TE:=⟨false,1,some (.sl true []),.sl 332 2 16 (.agg [.int .i64 0,.int .i64 0]),none⟩
theorem te122_ok : TeOk Tryz.prog 122 te122:=.s 332
def te124 : TE:=⟨false,1,some (.nilf),.oth,none⟩
theorem te124_ok : TeOk Tryz.prog 124 te124:=.c
def te125 : TE:=⟨false,1,some (.nilf),.oth,none⟩
theorem te125_ok : TeOk Tryz.prog 125 te125:=.c
def te126 : TE:=⟨false,1,some (.sl true []),.sl 133 5 40 (.agg [.int .i64 0,.int .i64 0,.int .i64 0,.int .i64 0,.int .i64 0]),none⟩
theorem te126_ok : TeOk Tryz.prog 126 te126:=.s 133
def te127 : TE:=⟨false,1,some (.nilf),.oth,none⟩
theorem te127_ok : TeOk Tryz.prog 127 te127:=.c
def te128 : TE:=⟨true,3,some (.agg [.int .i64 0,.int .i64 0,.sl true []]),.st [(0,false,1),(1,false,1),(2,false,1)],none⟩
theorem te128_ok : TeOk Tryz.prog 128 te128:=.u
def te129 : TE:=⟨true,3,some (.agg [.int .i64 0,.int .i64 0,.sl true []]),.st [(0,false,1),(1,false,1),(2,false,1)],none⟩
theorem te129_ok : TeOk Tryz.prog 129 te129:=.u
def te130 : TE:=⟨false,1,some (.nilf),.oth,none⟩
theorem te130_ok : TeOk Tryz.prog 130 te130:=.c
def te131 : TE:=⟨false,1,some (.nilp),.oth,none⟩
theorem te131_ok : TeOk Tryz.prog 131 te131:=.c
def te132 : TE:=⟨true,5,some (.agg [.int .i64 0,.int .i64 0,.int .i64 0,.int .i64 0,.int .i64 0]),.st [(0,false,1),(1,true,2),(3,true,2)],some 5⟩
theorem te132_ok : TeOk Tryz.prog 132 te132:=.uq
def te133 : TE:=⟨true,5,some (.agg [.int .i64 0,.int .i64 0,.int .i64 0,.int .i64 0,.int .i64 0]),.st [(0,false,1),(1,true,2),(3,true,2)],some 5⟩
theorem te133_ok : TeOk Tryz.prog 133 te133:=.uq
def te134 : TE:=⟨false,1,some (.sl true []),.sl 140 2 16 (.agg [.int .i64 0,.int .i64 0]),none⟩
theorem te134_ok : TeOk Tryz.prog 134 te134:=.s 140
def te136 : TE:=⟨false,1,some (.nilf),.oth,none⟩
theorem te136_ok : TeOk Tryz.prog 136 te136:=.c
def te138 : TE:=⟨false,1,some (.nilf),.oth,none⟩
theorem te138_ok : TeOk Tryz.prog 138 te138:=.c
def te139 : TE:=⟨true,2,some (.agg [.int .i64 0,.int .i64 0]),.st [(0,false,1),(1,false,1)],some 2⟩
theorem te139_ok : TeOk Tryz.prog 139 te139:=.uq
def te140 : TE:=⟨true,2,some (.agg [.int .i64 0,.int .i64 0]),.st [(0,false,1),(1,false,1)],some 2⟩
theorem te140_ok : TeOk Tryz.prog 140 te140:=.uq
def te142 : TE:=⟨false,1,some (.nilf),.oth,none⟩
theorem te142_ok : TeOk Tryz.prog 142 te142:=.c
def te143 : TE:=⟨false,1,some (.nilf),.oth,none⟩
theorem te143_ok : TeOk Tryz.prog 143 te143:=.c
def te144 : TE:=⟨false,1,some (.nilf),.oth,none⟩
theorem te144_ok : TeOk Tryz.prog 144 te144:=.c
def te145 : TE:=⟨false,1,some (.nilp),.oth,none⟩
theorem te145_ok : TeOk Tryz.prog 145 te145:=.c
def te147 : TE:=⟨false,1,some (.nilf),.oth,none⟩
theorem te147_ok : TeOk Tryz.prog 147 te147:=.c
def te148 : TE:=⟨false,1,some (.nilp),.oth,none⟩
theorem te148_ok : TeOk Tryz.prog 148 te148:=.c
def te149 : TE:=⟨false,1,some (.nilf),.oth,none⟩
theorem te149_ok : TeOk Tryz.prog 149 te149:=.c
def te150 : TE:=⟨false,1,some (.nilf),.oth,none⟩
theorem te150_ok : TeOk Tryz.prog 150 te150:=.c
def te151 : TE:=⟨true,16,some (.agg [.int .i64 0,.int .i64 0,.int .i64 0,.int .i64 0,.int .i64 0,.int .i64 0,.int .i64 0,.int .i64 0,.int .i64 0,.int .i64 0,.int .i64 0,.int .i64 0,.int .i64 0,.int .i64 0,.int .i64 0,.int .i64 0]),.ar 16 false 1,some 16⟩
theorem te151_ok : TeOk Tryz.prog 151 te151:=.aq 3
def te152 : TE:=⟨true,976,some (.agg (rep 976 (.int .i64 0))),.ar 61 true 16,some 976⟩
theorem te152_ok : TeOk Tryz.prog 152 te152:=.aq 151
def te153 : TE:=⟨false,1,some (.nilf),.oth,none⟩
theorem te153_ok : TeOk Tryz.prog 153 te153:=.c
def te154 : TE:=⟨false,1,some (.nilf),.oth,none⟩
theorem te154_ok : TeOk Tryz.prog 154 te154:=.c
def te155 : TE:=⟨false,1,some (.nilf),.oth,none⟩
theorem te155_ok : TeOk Tryz.prog 155 te155:=.c
def te156 : TE:=⟨false,1,some (.sl true []),.sl 44 1 24 (.sl true []),none⟩
theorem te156_ok : TeOk Tryz.prog 156 te156:=.s 44
def te157 : TE:=⟨true,7,some (.agg [.int .i64 0,.int .i64 0,.int .i64 0,.int .i64 0,.sl true [],.sl true [],.sl true []]),.st [(0,false,1),(1,false,1),(2,false,1),(3,false,1),(4,false,1),(5,false,1),(6,false,1)],none⟩
theorem te157_ok : TeOk Tryz.prog 157 te157:=.u
def te158 : TE:=⟨true,7,some (.agg [.int .i64 0,.int .i64 0,.int .i64 0,.int .i64 0,.sl true [],.sl true [],.sl true []]),.st [(0,false,1),(1,false,1),(2,false,1),(3,false,1),(4,false,1),(5,false,1),(6,false,1)],none⟩
theorem te158_ok : TeOk Tryz.prog 158 te158:=.u
def te159 : TE:=⟨false,1,some (.nilf),.oth,none⟩
theorem te159_ok : TeOk Tryz.prog 159 te159:=.c
def te160 : TE:=⟨false,1,some (.nilf),.oth,none⟩
theorem te160_ok : TeOk Tryz.prog 160 te160:=.c
def te161 : TE:=⟨false,1,some (.nilf),.oth,none⟩
theorem te161_ok : TeOk Tryz.prog 161 te161:=.c
def te162 : TE:=⟨false,1,some (.nilf),.oth,none⟩
theorem te162_ok : TeOk Tryz.prog 162 te162:=.c
def te164 : TE:=⟨false,1,some (.nilf),.oth,none⟩
theorem te164_ok : TeOk Tryz.prog 164 te164:=.c
def te165 : TE:=⟨false,1,some (.nilf),.oth,none⟩
theorem te165_ok : TeOk Tryz.prog 165 te165:=.c
def te166 : TE:=⟨false,1,some (.nilf),.oth,none⟩
theorem te166_ok : TeOk Tryz.prog 166 te166:=.c
def te167 : TE:=⟨true,3,some (.agg [.int .i64 0,.int .i64 0,.int .i64 0]),.st [(0,false,1),(1,false,1),(2,false,1)],some 3⟩
theorem te167_ok : TeOk Tryz.prog 167 te167:=.uq
def te168 : TE:=⟨false,1,some (.nilf),.oth,none⟩
theorem te168_ok : TeOk Tryz.prog 168 te168:=.c
def te169 : TE:=⟨false,1,some (.nilf),.oth,none⟩
theorem te169_ok : TeOk Tryz.prog 169 te169:=.c
def te170 : TE:=⟨false,1,some (.nilf),.oth,none⟩
theorem te170_ok : TeOk Tryz.prog 170 te170:=.c
def te171 : TE:=⟨false,1,some (.nilf),.oth,none⟩
theorem te171_ok : TeOk Tryz.prog 171 te171:=.c
def te172 : TE:=⟨false,1,some (.nilf),.oth,none⟩
theorem te172_ok : TeOk Tryz.prog 172 te172:=.c
def te173 : TE:=⟨false,1,some (.nilf),.oth,none⟩
theorem te173_ok : TeOk Tryz.prog 173 te173:=.c
def te175 : TE:=⟨false,1,some (.nilf),.oth,none⟩
theorem te175_ok : TeOk Tryz.prog 175 te175:=.c
def te176 : TE:=⟨false,1,some (.sl true []),.sl 30 3 24 (.agg [.int .i64 0,.int .i64 0,.int .i64 0]),none⟩
theorem te176_ok : TeOk Tryz.prog 176 te176:=.s 30
def te178 : TE:=⟨false,1,some (.nilf),.oth,none⟩
theorem te178_ok : TeOk Tryz.prog 178 te178:=.c
def te179 : TE:=⟨false,1,some (.sl true []),.sl 167 3 24 (.agg [.int .i64 0,.int .i64 0,.int .i64 0]),none⟩
theorem te179_ok : TeOk Tryz.prog 179 te179:=.s 167
def te180 : TE:=⟨false,1,some (.nilf),.oth,none⟩
theorem te180_ok : TeOk Tryz.prog 180 te180:=.c
def te181 : TE:=⟨true,2,some (.agg [.int .i64 0,.int .i64 0]),.st [(0,false,1),(1,false,1)],some 2⟩
theorem te181_ok : TeOk Tryz.prog 181 te181:=.uq
def te182 : TE:=⟨false,1,some (.nilf),.oth,none⟩
theorem te182_ok : TeOk Tryz.prog 182 te182:=.c
def te183 : TE:=⟨false,1,some (.sl true []),.sl 181 2 16 (.agg [.int .i64 0,.int .i64 0]),none⟩
theorem te183_ok : TeOk Tryz.prog 183 te183:=.s 181
def te184 : TE:=⟨false,1,some (.nilf),.oth,none⟩
theorem te184_ok : TeOk Tryz.prog 184 te184:=.c
def te185 : TE:=⟨false,1,some (.nilf),.oth,none⟩
theorem te185_ok : TeOk Tryz.prog 185 te185:=.c
def te186 : TE:=⟨false,1,some (.nilf),.oth,none⟩
theorem te186_ok : TeOk Tryz.prog 186 te186:=.c
def te187 : TE:=⟨false,1,some (.nilf),.oth,none⟩
theorem te187_ok : TeOk Tryz.prog 187 te187:=.c
def te188 : TE:=⟨false,1,some (.nilf),.oth,none⟩
theorem te188_ok : TeOk Tryz.prog 188 te188:=.c
def te190 : TE:=⟨false,1,some (.nilf),.oth,none⟩
theorem te190_ok : TeOk Tryz.prog 190 te190:=.c
def te192 : TE:=⟨false,1,some (.nilf),.oth,none⟩
theorem te192_ok : TeOk Tryz.prog 192 te192:=.c
def te193 : TE:=⟨false,1,some (.nilf),.oth,none⟩
theorem te193_ok : TeOk Tryz.prog 193 te193:=.c
def te194 : TE:=⟨false,1,some (.nilf),.oth,none⟩
theorem te194_ok : TeOk Tryz.prog 194 te194:=.c
def te195 : TE:=⟨false,1,some (.nilf),.oth,none⟩
theorem te195_ok : TeOk Tryz.prog 195 te195:=.c
def te196 : TE:=⟨false,1,some (.nilf),.oth,none⟩
theorem te196_ok : TeOk Tryz.prog 196 te196:=.c
def te197 : TE:=⟨false,1,some (.nilf),.oth,none⟩
theorem te197_ok : TeOk Tryz.prog 197 te197:=.c
def te198 : TE:=⟨false,1,some (.nilf),.oth,none⟩
theorem te198_ok : TeOk Tryz.prog 198 te198:=.c
def te199 : TE:=⟨false,1,some (.nilf),.oth,none⟩
theorem te199_ok : TeOk Tryz.prog 199 te199:=.c
def te200 : TE:=⟨false,1,some (.nilf),.oth,none⟩
theorem te200_ok : TeOk Tryz.prog 200 te200:=.c
def te201 : TE:=⟨false,1,some (.nilf),.oth,none⟩
theorem te201_ok : TeOk Tryz.prog 201 te201:=.c
def te202 : TE:=⟨false,1,some (.nilf),.oth,none⟩
theorem te202_ok : TeOk Tryz.prog 202 te202:=.c
def te204 : TE:=⟨false,1,some (.nilf),.oth,none⟩
theorem te204_ok : TeOk Tryz.prog 204 te204:=.c
def te205 : TE:=⟨false,1,some (.nilf),.oth,none⟩
theorem te205_ok : TeOk Tryz.prog 205 te205:=.c
def te206 : TE:=⟨false,1,some (.nilf),.oth,none⟩
theorem te206_ok : TeOk Tryz.prog 206 te206:=.c
def te207 : TE:=⟨false,1,some (.nilf),.oth,none⟩
theorem te207_ok : TeOk Tryz.prog 207 te207:=.c
def te208 : TE:=⟨false,1,some (.nilf),.oth,none⟩
theorem te208_ok : TeOk Tryz.prog 208 te208:=.c
def te209 : TE:=⟨false,1,some (.nilf),.oth,none⟩
theorem te209_ok : TeOk Tryz.prog 209 te209:=.c
def te210 : TE:=⟨false,1,some (.nilf),.oth,none⟩
theorem te210_ok : TeOk Tryz.prog 210 te210:=.c
def te211 : TE:=⟨false,1,some (.nilf),.oth,none⟩
theorem te211_ok : TeOk Tryz.prog 211 te211:=.c
def te212 : TE:=⟨false,1,some (.nilf),.oth,none⟩
theorem te212_ok : TeOk Tryz.prog 212 te212:=.c
def te213 : TE:=⟨false,1,some (.nilf),.oth,none⟩
theorem te213_ok : TeOk Tryz.prog 213 te213:=.c
def te214 : TE:=⟨false,1,some (.nilf),.oth,none⟩
theorem te214_ok : TeOk Tryz.prog 214 te214:=.c
def te215 : TE:=⟨false,1,some (.nilf),.oth,none⟩
theorem te215_ok : TeOk Tryz.prog 215 te215:=.c
def te216 : TE:=⟨false,1,some (.nilf),.oth,none⟩
theorem te216_ok : TeOk Tryz.prog 216 te216:=.c
def te217 : TE:=⟨false,1,some (.nilf),.oth,none⟩
theorem te217_ok : TeOk Tryz.prog 217 te217:=.c
def te218 : TE:=⟨false,1,some (.nilf),.oth,none⟩
theorem te218_ok : TeOk Tryz.prog 218 te218:=.c
def te219 : TE:=⟨false,1,some (.nilf),.oth,none⟩
theorem te219_ok : TeOk Tryz.prog 219 te219:=.c
def te220 : TE:=⟨false,1,some (.nilf),.oth,none⟩
theorem te220_ok : TeOk Tryz.prog 220 te220:=.c
def te221 : TE:=⟨false,1,some (.nilf),.oth,none⟩
theorem te221_ok : TeOk Tryz.prog 221 te221:=.c
def te222 : TE:=⟨false,1,some (.nilf),.oth,none⟩
theorem te222_ok : TeOk Tryz.prog 222 te222:=.c
def te223 : TE:=⟨false,1,some (.nilf),.oth,none⟩
theorem te223_ok : TeOk Tryz.prog 223 te223:=.c
def te225 : TE:=⟨false,1,some (.nilf),.oth,none⟩
theorem te225_ok : TeOk Tryz.prog 225 te225:=.c
def te226 : TE:=⟨false,1,some (.nilf),.oth,none⟩
theorem te226_ok : TeOk Tryz.prog 226 te226:=.c
def te228 : TE:=⟨false,1,some (.nilf),.oth,none⟩
theorem te228_ok : TeOk Tryz.prog 228 te228:=.c
def te229 : TE:=⟨false,1,some (.nilf),.oth,none⟩
theorem te229_ok : TeOk Tryz.prog 229 te229:=.c
def te230 : TE:=⟨false,1,some (.nilp),.oth,none⟩
theorem te230_ok : TeOk Tryz.prog 230 te230:=.c
def te232 : TE:=⟨false,1,some (.nilf),.oth,none⟩
theorem te232_ok : TeOk Tryz.prog 232 te232:=.c
def te233 : TE:=⟨false,1,some (.nilf),.oth,none⟩
theorem te233_ok : TeOk Tryz.prog 233 te233:=.c
def te234 : TE:=⟨true,1,some (.agg [.nilf]),.st [(0,false,1)],none⟩
theorem te234_ok : TeOk Tryz.prog 234 te234:=.u
def te235 : TE:=⟨true,1,some (.agg [.nilf]),.st [(0,false,1)],none⟩
theorem te235_ok : TeOk Tryz.prog 235 te235:=.u
def te236 : TE:=⟨false,1,some (.nilf),.oth,none⟩
theorem te236_ok : TeOk Tryz.prog 236 te236:=.c
def te237 : TE:=⟨false,1,some (.nilf),.oth,none⟩
theorem te237_ok : TeOk Tryz.prog 237 te237:=.c
def te238 : TE:=⟨false,1,some (.nilf),.oth,none⟩
theorem te238_ok : TeOk Tryz.prog 238 te238:=.c
def te239 : TE:=⟨false,1,some (.nilf),.oth,none⟩
theorem te239_ok : TeOk Tryz.prog 239 te239:=.c
def te240 : TE:=⟨false,1,some (.nilf),.oth,none⟩
theorem te240_ok : TeOk Tryz.prog 240 te240:=.c
def te241 : TE:=⟨false,1,some (.nilf),.oth,none⟩
theorem te241_ok : TeOk Tryz.prog 241 te241:=.c
def te242 : TE:=⟨false,1,some (.nilf),.oth,none⟩
theorem te242_ok : TeOk Tryz.prog 242 te242:=.c
def te243 : TE:=⟨false,1,some (.nilf),.oth,none⟩
theorem te243_ok : TeOk Tryz.prog 243 te243:=.c
def te244 : TE:=⟨true,2,some (.agg [.int .i64 0,.int .i64 0]),.st [(0,false,1),(1,false,1)],some 2⟩
theorem te244_ok : TeOk Tryz.prog 244 te244:=.uq
def te245 : TE:=⟨true,2,some (.agg [.int .i64 0,.int .i64 0]),.st [(0,false,1),(1,false,1)],some 2⟩
theorem te245_ok : TeOk Tryz.prog 245 te245:=.uq
def te246 : TE:=⟨false,1,some (.nilf),.oth,none⟩
theorem te246_ok : TeOk Tryz.prog 246 te246:=.c
def te247 : TE:=⟨false,1,some (.nilf),.oth,none⟩
theorem te247_ok : TeOk Tryz.prog 247 te247:=.c
def te248 : TE:=⟨false,1,some (.sl true []),.sl 245 2 16 (.agg [.int .i64 0,.int .i64 0]),none⟩
theorem te248_ok : TeOk Tryz.prog 248 te248:=.s 245
def te249 : TE:=⟨false,1,some (.nilf),.oth,none⟩
theorem te249_ok : TeOk Tryz.prog 249 te249:=.c
def te250 : TE:=⟨false,1,some (.nilf),.oth,none⟩
theorem te250_ok : TeOk Tryz.prog 250 te250:=.c
def te251 : TE:=⟨false,1,some (.nilf),.oth,none⟩
theorem te251_ok : TeOk Tryz.prog 251 te251:=.c
def te252 : TE:=⟨false,1,some (.nilf),.oth,none⟩
theorem te252_ok : TeOk Tryz.prog 252 te252:=.c
def te253 : TE:=⟨true,512,some (.agg (List.replicate 512 (.int .i64 0))),.ar 512 false 1,some 512⟩
theorem te253_ok : TeOk Tryz.prog 253 te253:=.aq 3
def te254 : TE:=⟨true,9,some (.agg [.int .i64 0,.int .i64 0,.int .i64 0,.int .i64 0,.int .i64 0,.int .i64 0,.int .i64 0,.int .i64 0,.int .i64 0]),.ar 9 false 1,some 9⟩
theorem te254_ok : TeOk Tryz.prog 254 te254:=.aq 3
def te255 : TE:=⟨true,9,some (.agg [.int .i64 0,.int .i64 0,.int .i64 0,.int .i64 0,.int .i64 0,.int .i64 0,.int .i64 0,.int .i64 0,.int .i64 0]),.ar 9 false 1,some 9⟩
theorem te255_ok : TeOk Tryz.prog 255 te255:=.aq 3
def te256 : TE:=⟨true,526,some (.agg ([.int .i64 0,.int .i64 0,.sl true [],.sl true [],.sl true []] ++ List.replicate 521 (.int .i64 0))),.st [(0,true,5),(5,true,512),(517,true,9)],none⟩
theorem te256_ok : TeOk Tryz.prog 256 te256:=.u
def te257 : TE:=⟨true,526,some (.agg ([.int .i64 0,.int .i64 0,.sl true [],.sl true [],.sl true []] ++ List.replicate 521 (.int .i64 0))),.st [(0,true,5),(5,true,512),(517,true,9)],none⟩
theorem te257_ok : TeOk Tryz.prog 257 te257:=.u
def te258 : TE:=⟨false,1,some (.nilf),.oth,none⟩
theorem te258_ok : TeOk Tryz.prog 258 te258:=.c
def te259 : TE:=⟨false,1,some (.nilf),.oth,none⟩
theorem te259_ok : TeOk Tryz.prog 259 te259:=.c
def te260 : TE:=⟨false,1,some (.sl true []),.sl 406 2 16 (.agg [.int .i64 0,.int .i64 0]),none⟩
theorem te260_ok : TeOk Tryz.prog 260 te260:=.s 406
def te261 : TE:=⟨true,5,some (.agg [.int .i64 0,.int .i64 0,.sl true [],.sl true [],.sl true []]),.st [(0,false,1),(1,false,1),(2,false,1),(3,false,1),(4,false,1)],none⟩
theorem te261_ok : TeOk Tryz.prog 261 te261:=.u
def te262 : TE:=⟨true,5,some (.agg [.int .i64 0,.int .i64 0,.sl true [],.sl true [],.sl true []]),.st [(0,false,1),(1,false,1),(2,false,1),(3,false,1),(4,false,1)],none⟩
theorem te262_ok : TeOk Tryz.prog 262 te262:=.u
def te263 : TE:=⟨false,1,some (.nilf),.oth,none⟩
theorem te263_ok : TeOk Tryz.prog 263 te263:=.c
def te264 : TE:=⟨false,1,some (.nilf),.oth,none⟩
theorem te264_ok : TeOk Tryz.prog 264 te264:=.c
def te266 : TE:=⟨false,1,some (.nilf),.oth,none⟩
theorem te266_ok : TeOk Tryz.prog 266 te266:=.c
def te267 : TE:=⟨false,1,some (.nilf),.oth,none⟩
theorem te267_ok : TeOk Tryz.prog 267 te267:=.c
def te268 : TE:=⟨false,1,some (.sl true []),.sl 4 1 1 (.bool false),none⟩
theorem te268_ok : TeOk Tryz.prog 268 te268:=.s 4
def te269 : TE:=⟨false,1,some (.nilf),.oth,none⟩
theorem te269_ok : TeOk Tryz.prog 269 te269:=.c
def te270 : TE:=⟨false,1,some (.nilf),.oth,none⟩
theorem te270_ok : TeOk Tryz.prog 270 te270:=.c
def te271 : TE:=⟨false,1,some (.nilf),.oth,none⟩
theorem te271_ok : TeOk Tryz.prog 271 te271:=.c
def te272 : TE:=⟨false,1,some (.nilf),.oth,none⟩
theorem te272_ok : TeOk Tryz.prog 272 te272:=.c
def te273 : TE:=⟨false,1,some (.nilf),.oth,none⟩
theorem te273_ok : TeOk Tryz.prog 273 te273:=.c
def te274 : TE:=⟨false,1,some (.nilf),.oth,none⟩
theorem te274_ok : TeOk Tryz.prog 274 te274:=.c
def te276 : TE:=⟨false,1,some (.nilf),.oth,none⟩
theorem te276_ok : TeOk Tryz.prog 276 te276:=.c
def te277 : TE:=⟨false,1,some (.nilf),.oth,none⟩
theorem te277_ok : TeOk Tryz.prog 277 te277:=.c
def te278 : TE:=⟨false,1,some (.nilf),.oth,none⟩
theorem te278_ok : TeOk Tryz.prog 278 te278:=.c
def te279 : TE:=⟨false,1,some (.nilf),.oth,none⟩
theorem te279_ok : TeOk Tryz.prog 279 te279:=.c
def te280 : TE:=⟨false,1,some (.nilf),.oth,none⟩
theorem te280_ok : TeOk Tryz.prog 280 te280:=.c
def te281 : TE:=⟨false,1,some (.nilf),.oth,none⟩
theorem te281_ok : TeOk Tryz.prog 281 te281:=.c
def te282 : TE:=⟨false,1,some (.nilf),.oth,none⟩
theorem te282_ok : TeOk Tryz.prog 282 te282:=.c
def te283 : TE:=⟨false,1,some (.nilf),.oth,none⟩
theorem te283_ok : TeOk Tryz.prog 283 te283:=.c
def te284 : TE:=⟨false,1,some (.nilf),.oth,none⟩
theorem te284_ok : TeOk Tryz.prog 284 te284:=.c
def te285 : TE:=⟨false,1,some (.nilf),.oth,none⟩
theorem te285_ok : TeOk Tryz.prog 285 te285:=.c
def te286 : TE:=⟨false,1,some (.nilf),.oth,none⟩
theorem te286_ok : TeOk Tryz.prog 286 te286:=.c
def te287 : TE:=⟨false,1,some (.nilf),.oth,none⟩
theorem te287_ok : TeOk Tryz.prog 287 te287:=.c
def te288 : TE:=⟨false,1,some (.nilf),.oth,none⟩
theorem te288_ok : TeOk Tryz.prog 288 te288:=.c
def te289 : TE:=⟨false,1,some (.nilf),.oth,none⟩
theorem te289_ok : TeOk Tryz.prog 289 te289:=.c
def te290 : TE:=⟨false,1,some (.nilf),.oth,none⟩
theorem te290_ok : TeOk Tryz.prog 290 te290:=.c
def te291 : TE:=⟨false,1,some (.nilf),.oth,none⟩
theorem te291_ok : TeOk Tryz.prog 291 te291:=.c
def te292 : TE:=⟨false,1,some (.nilf),.oth,none⟩
theorem te292_ok : TeOk Tryz.prog 292 te292:=.c
def te293 : TE:=⟨true,3,some (.agg [.int .i64 0,.int .i64 0,.int .i64 0]),.st [(0,false,1),(1,false,1),(2,false,1)],some 3⟩
theorem te293_ok : TeOk Tryz.prog 293 te293:=.uq
def te294 : TE:=⟨true,3,some (.agg [.int .i64 0,.int .i64 0,.int .i64 0]),.st [(0,false,1),(1,false,1),(2,false,1)],some 3⟩
theorem te294_ok : TeOk Tryz.prog 294 te294:=.uq
def te295 : TE:=⟨false,1,some (.int .u32 0),.int .u32,none⟩
theorem te295_ok : TeOk Tryz.prog 295 te295:=.i
def te296 : TE:=⟨true,3,some (.agg [.sl true [],.int .i64 0,.int .u32 0]),.st [(0,false,1),(1,false,1),(2,false,1)],none⟩
theorem te296_ok : TeOk Tryz.prog 296 te296:=.u
def te297 : TE:=⟨true,3,some (.agg [.sl true [],.int .i64 0,.int .u32 0]),.st [(0,false,1),(1,false,1),(2,false,1)],none⟩
theorem te297_ok : TeOk Tryz.prog 297 te297:=.u
def te298 : TE:=⟨false,1,some (.nilf),.oth,none⟩
theorem te298_ok : TeOk Tryz.prog 298 te298:=.c
def te299 : TE:=⟨false,1,some (.nilf),.oth,none⟩
theorem te299_ok : TeOk Tryz.prog 299 te299:=.c
def te300 : TE:=⟨false,1,some (.nilf),.oth,none⟩
theorem te300_ok : TeOk Tryz.prog 300 te300:=.c
def te301 : TE:=⟨false,1,some (.nilf),.oth,none⟩
theorem te301_ok : TeOk Tryz.prog 301 te301:=.c
def te302 : TE:=⟨false,1,some (.nilf),.oth,none⟩
theorem te302_ok : TeOk Tryz.prog 302 te302:=.c
def te303 : TE:=⟨false,1,some (.nilp),.oth,none⟩
theorem te303_ok : TeOk Tryz.prog 303 te303:=.c
def te305 : TE:=⟨false,1,some (.nilf),.oth,none⟩
theorem te305_ok : TeOk Tryz.prog 305 te305:=.c
def te306 : TE:=⟨true,8,some (.agg [.int .i64 0,.int .i64 0,.int .i64 0,.int .i64 0,.int .i64 0,.int .i64 0,.int .i64 0,.int .i64 0]),.ar 8 false 1,some 8⟩
theorem te306_ok : TeOk Tryz.prog 306 te306:=.aq 3
def te307 : TE:=⟨true,8,some (.agg [.int .i64 0,.int .i64 0,.int .i64 0,.int .i64 0,.int .i64 0,.int .i64 0,.int .i64 0,.int .i64 0]),.ar 8 false 1,some 8⟩
theorem te307_ok : TeOk Tryz.prog 307 te307:=.aq 3
def te308 : TE:=⟨true,13,some (.agg [.sl true [],.int .i64 0,.int .i64 0,.sl true [],.sl true [],.int .i64 0,.int .i64 0,.int .i64 0,.int .i64 0,.int .i64 0,.int .i64 0,.int .i64 0,.int .i64 0]),.st [(0,true,5),(5,true,8)],none⟩
theorem te308_ok : TeOk Tryz.prog 308 te308:=.u
def te309 : TE:=⟨true,13,some (.agg [.sl true [],.int .i64 0,.int .i64 0,.sl true [],.sl true [],.int .i64 0,.int .i64 0,.int .i64 0,.int .i64 0,.int .i64 0,.int .i64 0,.int .i64 0,.int .i64 0]),.st [(0,true,5),(5,true,8)],none⟩
theorem te309_ok : TeOk Tryz.prog 309 te309:=.u
def te310 : TE:=⟨false,1,some (.nilf),.oth,none⟩
theorem te310_ok : TeOk Tryz.prog 310 te310:=.c
def te311 : TE:=⟨false,1,some (.nilf),.oth,none⟩
theorem te311_ok : TeOk Tryz.prog 311 te311:=.c
def te312 : TE:=⟨true,1,some (.agg [.nilf]),.st [(0,false,1)],none⟩
theorem te312_ok : TeOk Tryz.prog 312 te312:=.u
def te313 : TE:=⟨true,1,some (.agg [.nilf]),.st [(0,false,1)],none⟩
theorem te313_ok : TeOk Tryz.prog 313 te313:=.u
def te314 : TE:=⟨false,1,some (.nilf),.oth,none⟩
theorem te314_ok : TeOk Tryz.prog 314 te314:=.c
def te315 : TE:=⟨false,1,some (.nilf),.oth,none⟩
theorem te315_ok : TeOk Tryz.prog 315 te315:=.c
def te316 : TE:=⟨false,1,some (.nilp),.oth,none⟩
theorem te316_ok : TeOk Tryz.prog 316 te316:=.c
def te318 : TE:=⟨false,1,some (.nilf),.oth,none⟩
theorem te318_ok : TeOk Tryz.prog 318 te318:=.c
def te319 : TE:=⟨false,1,some (.nilf),.oth,none⟩
theorem te319_ok : TeOk Tryz.prog 319 te319:=.c
def te320 : TE:=⟨true,64,some (.agg (List.replicate 64 (.int .i64 0))),.ar 8 true 8,some 64⟩
theorem te320_ok : TeOk Tryz.prog 320 te320:=.aq 306
def te321 : TE:=⟨true,64,some (.agg (List.replicate 64 (.int .i64 0))),.ar 8 true 8,some 64⟩
theorem te321_ok : TeOk Tryz.prog 321 te321:=.aq 306
def te322 : TE:=⟨true,68,some (.agg ([.int .i64 0,.sl true [],.int .i64 0,.sl true []] ++ List.replicate 64 (.int .i64 0))),.st [(0,true,4),(4,true,64)],none⟩
theorem te322_ok : TeOk Tryz.prog 322 te322:=.u
def te323 : TE:=⟨true,68,some (.agg ([.int .i64 0,.sl true [],.int .i64 0,.sl true []] ++ List.replicate 64 (.int .i64 0))),.st [(0,true,4),(4,true,64)],none⟩
theorem te323_ok : TeOk Tryz.prog 323 te323:=.u
def te324 : TE:=⟨false,1,some (.nilf),.oth,none⟩
theorem te324_ok : TeOk Tryz.prog 324 te324:=.c
def te325 : TE:=⟨false,1,some (.nilf),.oth,none⟩
theorem te325_ok : TeOk Tryz.prog 325 te325:=.c
def te326 : TE:=⟨false,1,some (.nilf),.oth,none⟩
theorem te326_ok : TeOk Tryz.prog 326 te326:=.c
def te327 : TE:=⟨false,1,some (.nilf),.oth,none⟩
theorem te327_ok : TeOk Tryz.prog 327 te327:=.c
def te328 : TE:=⟨false,1,some (.nilf),.oth,none⟩
theorem te328_ok : TeOk Tryz.prog 328 te328:=.c
def te329 : TE:=⟨true,6,some (.agg [.int .i64 0,.int .i64 0,.int .i64 0,.int .i64 0,.int .i64 0,.int .i64 0]),.st [(0,false,1),(1,false,1),(2,true,2),(4,true,2)],some 6⟩
theorem te329_ok : TeOk Tryz.prog 329 te329:=.uq
def te330 : TE:=⟨true,6,some (.agg [.int .i64 0,.int .i64 0,.int .i64 0,.int .i64 0,.int .i64 0,.int .i64 0]),.st [(0,false,1),(1,false,1),(2,true,2),(4,true,2)],some 6⟩
theorem te330_ok : TeOk Tryz.prog 330 te330:=.uq
def te331 : TE:=⟨true,2,some (.agg [.int .i64 0,.int .i64 0]),.st [(0,false,1),(1,false,1)],some 2⟩
theorem te331_ok : TeOk Tryz.prog 331 te331:=.uq
def te332 : TE:=⟨true,2,some (.agg [.int .i64 0,.int .i64 0]),.st [(0,false,1),(1,false,1)],some 2⟩
theorem te332_ok : TeOk Tryz.prog 332 te332:=.uq
def te333 : TE:=⟨false,1,some (.nilf),.oth,none⟩
theorem te333_ok : TeOk Tryz.prog 333 te333:=.c
def te334 : TE:=⟨false,1,some (.nilp),.oth,none⟩
theorem te334_ok : TeOk Tryz.prog 334 te334:=.c
def te336 : TE:=⟨false,1,some (.nilf),.oth,none⟩
theorem te336_ok : TeOk Tryz.prog 336 te336:=.c
def te337 : TE:=⟨false,1,some (.sl true []),.sl 338 121 968 (.agg (List.replicate 121 (.int .i64 0))),none⟩
theorem te337_ok : TeOk Tryz.prog 337 te337:=.s 338
def te338 : TE:=⟨true,121,some (.agg (List.replicate 121 (.int .i64 0))),.ar 121 false 1,some 121⟩
theorem te338_ok : TeOk Tryz.prog 338 te338:=.aq 3
def te339 : TE:=⟨false,1,some (.nilf),.oth,none⟩
theorem te339_ok : TeOk Tryz.prog 339 te339:=.c
def te340 : TE:=⟨false,1,some (.nilm),.mp (.sl true []),none⟩
theorem te340_ok : TeOk Tryz.prog 340 te340:=.m
def te341 : TE:=⟨true,6,some (.agg [.int .i64 0,.int .i64 0,.int .i64 0,.sl true [],.sl true [],.nilm]),.st [(0,true,5),(5,false,1)],none⟩
theorem te341_ok : TeOk Tryz.prog 341 te341:=.u
def te342 : TE:=⟨true,6,some (.agg [.int .i64 0,.int .i64 0,.int .i64 0,.sl true [],.sl true [],.nilm]),.st [(0,true,5),(5,false,1)],none⟩
theorem te342_ok : TeOk Tryz.prog 342 te342:=.u
def te343 : TE:=⟨false,1,some (.nilf),.oth,none⟩
theorem te343_ok : TeOk Tryz.prog 343 te343:=.c
def te344 : TE:=⟨false,1,some (.nilf),.oth,none⟩
theorem te344_ok : TeOk Tryz.prog 344 te344:=.c
def te345 : TE:=⟨false,1,some (.nilf),.oth,none⟩
theorem te345_ok : TeOk Tryz.prog 345 te345:=.c
def te346 : TE:=⟨false,1,some (.nilf),.oth,none⟩
theorem te346_ok : TeOk Tryz.prog 346 te346:=.c
def te347 : TE:=⟨false,1,some (.nilf),.oth,none⟩
theorem te347_ok : TeOk Tryz.prog 347 te347:=.c
def te348 : TE:=⟨false,1,some (.nilp),.oth,none⟩
theorem te348_ok : TeOk Tryz.prog 348 te348:=.c
def te350 : TE:=⟨false,1,some (.nilf),.oth,none⟩
theorem te350_ok : TeOk Tryz.prog 350 te350:=.c
def te351 : TE:=⟨false,1,some (.nilf),.oth,none⟩
theorem te351_ok : TeOk Tryz.prog 351 te351:=.c
def te352 : TE:=⟨true,1,some (.agg [.nilf]),.st [(0,false,1)],none⟩
theorem te352_ok : TeOk Tryz.prog 352 te352:=.u
def te353 : TE:=⟨true,1,some (.agg [.nilf]),.st [(0,false,1)],none⟩
theorem te353_ok : TeOk Tryz.prog 353 te353:=.u
def te354 : TE:=⟨false,1,some (.nilf),.oth,none⟩
theorem te354_ok : TeOk Tryz.prog 354 te354:=.c
def te355 : TE:=⟨true,14,some (.agg [.bool false,.bool false,.bool false,.bool false,.bool false,.bool false,.bool false,.bool false,.bool false,.bool false,.bool false,.bool false,.bool false,.bool false]),.ar 14 false 1,some 1048590⟩
theorem te355_ok : TeOk Tryz.prog 355 te355:=.aq 4
def te356 : TE:=⟨true,14,some (.agg [.bool false,.bool false,.bool false,.bool false,.bool false,.bool false,.bool false,.bool false,.bool false,.bool false,.bool false,.bool false,.bool false,.bool false]),.ar 14 false 1,some 1048590⟩
theorem te356_ok : TeOk Tryz.prog 356 te356:=.aq 4
def te357 : TE:=⟨false,1,some (.nilf),.oth,none⟩
theorem te357_ok : TeOk Tryz.prog 357 te357:=.c
def te358 : TE:=⟨false,1,some (.nilm),.mp (.bool false),none⟩
theorem te358_ok : TeOk Tryz.prog 358 te358:=.m
def te359 : TE:=⟨false,1,some (.nilm),.mp (.sl true []),none⟩
theorem te359_ok : TeOk Tryz.prog 359 te359:=.m
def te360 : TE:=⟨true,61,some (.agg (List.replicate 61 (.int .i64 0))),.ar 61 false 1,some 61⟩
theorem te360_ok : TeOk Tryz.prog 360 te360:=.aq 3
def te361 : TE:=⟨true,305,some (.agg (List.replicate 305 (.int .i64 0))),.ar 5 true 61,some 305⟩
theorem te361_ok : TeOk Tryz.prog 361 te361:=.aq 360
def te362 : TE:=⟨true,305,some (.agg (List.replicate 305 (.int .i64 0))),.ar 5 true 61,some 305⟩
theorem te362_ok : TeOk Tryz.prog 362 te362:=.aq 360
def te363 : TE:=⟨true,313,some (.agg ([.int .i64 0,.int .i64 0,.int .i64 0,.int .i64 0,.sl true [],.sl true [],.sl true []] ++ List.replicate 305 (.int .i64 0) ++ [.nilm])),.st [(0,true,7),(7,true,305),(312,false,1)],none⟩
theorem te363_ok : TeOk Tryz.prog 363 te363:=.u
def te364 : TE:=⟨true,313,some (.agg ([.int .i64 0,.int .i64 0,.int .i64 0,.int .i64 0,.sl true [],.sl true [],.sl true []] ++ List.replicate 305 (.int .i64 0) ++ [.nilm])),.st [(0,true,7),(7,true,305),(312,false,1)],none⟩
theorem te364_ok : TeOk Tryz.prog 364 te364:=.u
def te365 : TE:=⟨true,4880,some (.agg (rep 4880 (.int .i64 0))),.ar 5 true 976,none⟩
theorem te365_ok : TeOk Tryz.prog 365 te365:=.a 152
def te366 : TE:=⟨true,4880,some (.agg (rep 4880 (.int .i64 0))),.ar 5 true 976,none⟩
theorem te366_ok : TeOk Tryz.prog 366 te366:=.a 152
def te367 : TE:=⟨true,16,some (.agg [.bool false,.bool false,.bool false,.bool false,.bool false,.bool false,.bool false,.bool false,.bool false,.bool false,.bool false,.bool false,.bool false,.bool false,.bool false,.bool false]),.ar 16 false 1,some 1048592⟩
theorem te367_ok : TeOk Tryz.prog 367 te367:=.aq 4
def te368 : TE:=⟨true,976,some (.agg (rep 976 (.bool false))),.ar 61 true 16,none⟩
theorem te368_ok : TeOk Tryz.prog 368 te368:=.a 367
def te369 : TE:=⟨true,4880,some (.agg (rep 4880 (.bool false))),.ar 5 true 976,none⟩
theorem te369_ok : TeOk Tryz.prog 369 te369:=.a 368
def te370 : TE:=⟨false,1,some (.nilf),.oth,none⟩
theorem te370_ok : TeOk Tryz.prog 370 te370:=.c
def te371 : TE:=⟨false,1,some (.nilf),.oth,none⟩
theorem te371_ok : TeOk Tryz.prog 371 te371:=.c
def te372 : TE:=⟨false,1,some (.nilf),.oth,none⟩
theorem te372_ok : TeOk Tryz.prog 372 te372:=.c
def te373 : TE:=⟨false,1,some (.nilf),.oth,none⟩
theorem te373_ok : TeOk Tryz.prog 373 te373:=.c
def te374 : TE:=⟨false,1,some (.nilf),.oth,none⟩
theorem te374_ok : TeOk Tryz.prog 374 te374:=.c
def te375 : TE:=⟨false,1,some (.nilf),.oth,none⟩
theorem te375_ok : TeOk Tryz.prog 375 te375:=.c
def te376 : TE:=⟨false,1,some (.nilf),.oth,none⟩
theorem te376_ok : TeOk Tryz.prog 376 te376:=.c
def te377 : TE:=⟨false,1,some (.nilf),.oth,none⟩
theorem te377_ok : TeOk Tryz.prog 377 te377:=.c
def te378 : TE:=⟨false,1,some (.nilf),.oth,none⟩
theorem te378_ok : TeOk Tryz.prog 378 te378:=.c
def te379 : TE:=⟨false,1,some (.nilf),.oth,none⟩
theorem te379_ok : TeOk Tryz.prog 379 te379:=.c
def te380 : TE:=⟨false,1,some (.nilf),.oth,none⟩
theorem te380_ok : TeOk Tryz.prog 380 te380:=.c
def te381 : TE:=⟨false,1,some (.nilf),.oth,none⟩
theorem te381_ok : TeOk Tryz.prog 381 te381:=.c
def te382 : TE:=⟨false,1,some (.nilf),.oth,none⟩
theorem te382_ok : TeOk Tryz.prog 382 te382:=.c
def te383 : TE:=⟨false,1,some (.nilf),.oth,none⟩
theorem te383_ok : TeOk Tryz.prog 383 te383:=.c
def te384 : TE:=⟨false,1,some (.nilf),.oth,none⟩
theorem te384_ok : TeOk Tryz.prog 384 te384:=.c
def te385 : TE:=⟨false,1,some (.nilf),.oth,none⟩
theorem te385_ok : TeOk Tryz.prog 385 te385:=.c
def te386 : TE:=⟨false,1,some (.nilf),.oth,none⟩
theorem te386_ok : TeOk Tryz.prog 386 te386:=.c
def te387 : TE:=⟨false,1,some (.nilf),.oth,none⟩
theorem te387_ok : TeOk Tryz.prog 387 te387:=.c
def te388 : TE:=⟨false,1,some (.nilf),.oth,none⟩
theorem te388_ok : TeOk Tryz.prog 388 te388:=.c
def te389 : TE:=⟨false,1,some (.nilf),.oth,none⟩
theorem te389_ok : TeOk Tryz.prog 389 te389:=.c
def te390 : TE:=⟨true,1,some (.agg [.nilf]),.st [(0,false,1)],none⟩
theorem te390_ok : TeOk Tryz.prog 390 te390:=.u
def te391 : TE:=⟨true,1,some (.agg [.nilf]),.st [(0,false,1)],none⟩
theorem te391_ok : TeOk Tryz.prog 391 te391:=.u
def te392 : TE:=⟨false,1,some (.nilf),.oth,none⟩
theorem te392_ok : TeOk Tryz.prog 392 te392:=.c
def te393 : TE:=⟨false,1,some (.nilf),.oth,none⟩
theorem te393_ok : TeOk Tryz.prog 393 te393:=.c
def te394 : TE:=⟨false,1,some (.nilf),.oth,none⟩
theorem te394_ok : TeOk Tryz.prog 394 te394:=.c
def te395 : TE:=⟨false,1,some (.nilf),.oth,none⟩
theorem te395_ok : TeOk Tryz.prog 395 te395:=.c
def te396 : TE:=⟨false,1,some (.nilf),.oth,none⟩
theorem te396_ok : TeOk Tryz.prog 396 te396:=.c
def te397 : TE:=⟨false,1,some (.nilf),.oth,none⟩
theorem te397_ok : TeOk Tryz.prog 397 te397:=.c
def te398 : TE:=⟨false,1,some (.nilf),.oth,none⟩
theorem te398_ok : TeOk Tryz.prog 398 te398:=.c
def te399 : TE:=⟨false,1,some (.nilf),.oth,none⟩
theorem te399_ok : TeOk Tryz.prog 399 te399:=.c
def te400 : TE:=⟨false,1,some (.nilf),.oth,none⟩
theorem te400_ok : TeOk Tryz.prog 400 te400:=.c
def te401 : TE:=⟨false,1,some (.nilf),.oth,none⟩
theorem te401_ok : TeOk Tryz.prog 401 te401:=.c
def te402 : TE:=⟨false,1,some (.nilf),.oth,none⟩
theorem te402_ok : TeOk Tryz.prog 402 te402:=.c
def te403 : TE:=⟨false,1,some (.nilm),.mp (.int .i64 0),none⟩
theorem te403_ok : TeOk Tryz.prog 403 te403:=.m
def te405 : TE:=⟨false,1,some (.nilf),.oth,none⟩
theorem te405_ok : TeOk Tryz.prog 405 te405:=.c
def te406 : TE:=⟨true,2,some (.agg [.int .i64 0,.int .i64 0]),.st [(0,false,1),(1,false,1)],some 2⟩
theorem te406_ok : TeOk Tryz.prog 406 te406:=.uq
def te407 : TE:=⟨false,1,some (.nilf),.oth,none⟩
theorem te407_ok : TeOk Tryz.prog 407 te407:=.c
def te408 : TE:=⟨false,1,some (.nilf),.oth,none⟩
theorem te408_ok : TeOk Tryz.prog 408 te408:=.c
def te409 : TE:=⟨false,1,some (.nilf),.oth,none⟩
theorem te409_ok : TeOk Tryz.prog 409 te409:=.c
def te410 : TE:=⟨false,1,some (.nilf),.oth,none⟩
theorem te410_ok : TeOk Tryz.prog 410 te410:=.c
def te411 : TE:=⟨false,1,some (.nilf),.oth,none⟩
theorem te411_ok : TeOk Tryz.prog 411 te411:=.c
def te412 : TE:=⟨false,1,some (.nilf),.oth,none⟩
theorem te412_ok : TeOk Tryz.prog 412 te412:=.c
def te413 : TE:=⟨false,1,some (.nilf),.oth,none⟩
theorem te413_ok : TeOk Tryz.prog 413 te413:=.c
def te414 : TE:=⟨false,1,some (.nilf),.oth,none⟩
theorem te414_ok : TeOk Tryz.prog 414 te414:=.c
def te415 : TE:=⟨false,1,some (.nilf),.oth,none⟩
theorem te415_ok : TeOk Tryz.prog 415 te415:=.c
def te416 : TE:=⟨false,1,some (.nilf),.oth,none⟩
theorem te416_ok : TeOk Tryz.prog 416 te416:=.c
def te417 : TE:=⟨false,1,some (.nilm),.mp2 (.int .i64 0),none⟩
theorem te417_ok : TeOk Tryz.prog 417 te417:=.m2
def te418 : TE:=⟨false,1,some (.nilf),.oth,none⟩
theorem te418_ok : TeOk Tryz.prog 418 te418:=.c
def te419 : TE:=⟨false,1,some (.nilf),.oth,none⟩
theorem te419_ok : TeOk Tryz.prog 419 te419:=.c
def te420 : TE:=⟨false,1,some (.nilf),.oth,none⟩
theorem te420_ok : TeOk Tryz.prog 420 te420:=.c
def te421 : TE:=⟨true,1,some (.agg [.nilf]),.st [(0,false,1)],none⟩
theorem te421_ok : TeOk Tryz.prog 421 te421:=.u
def te422 : TE:=⟨true,1,some (.agg [.nilf]),.st [(0,false,1)],none⟩
theorem te422_ok : TeOk Tryz.prog 422 te422:=.u
def te423 : TE:=⟨false,1,some (.nilf),.oth,none⟩
theorem te423_ok : TeOk Tryz.prog 423 te423:=.c
def te424 : TE:=⟨true,2,some (.agg [.int .i64 0,.int .i64 0]),.st [(0,false,1),(1,false,1)],some 2⟩
theorem te424_ok : TeOk Tryz.prog 424 te424:=.uq
def te425 : TE:=⟨true,2,some (.agg [.int .i64 0,.int .i64 0]),.st [(0,false,1),(1,false,1)],some 2⟩
theorem te425_ok : TeOk Tryz.prog 425 te425:=.uq
def te426 : TE:=⟨false,1,some (.nilf),.oth,none⟩
theorem te426_ok : TeOk Tryz.prog 426 te426:=.c
def te427 : TE:=⟨false,1,some (.nilf),.oth,none⟩
theorem te427_ok : TeOk Tryz.prog 427 te427:=.c
def te428 : TE:=⟨true,2,some (.agg [.int .i64 0,.sl true []]),.st [(0,false,1),(1,false,1)],none⟩
theorem te428_ok : TeOk Tryz.prog 428 te428:=.u
def te429 : TE:=⟨true,2,some (.agg [.int .i64 0,.sl true []]),.st [(0,false,1),(1,false,1)],none⟩
theorem te429_ok : TeOk Tryz.prog 429 te429:=.u
def te430 : TE:=⟨false,1,some (.nilf),.oth,none⟩
theorem te430_ok : TeOk Tryz.prog 430 te430:=.c
def te431 : TE:=⟨false,1,some (.nilf),.oth,none⟩
theorem te431_ok : TeOk Tryz.prog 431 te431:=.c
def te432 : TE:=⟨false,1,some (.nilf),.oth,none⟩
theorem te432_ok : TeOk Tryz.prog 432 te432:=.c
def te433 : TE:=⟨false,1,some (.nilf),.oth,none⟩
theorem te433_ok : TeOk Tryz.prog 433 te433:=.c
def te434 : TE:=⟨false,1,some (.nilf),.oth,none⟩
theorem te434_ok : TeOk Tryz.prog 434 te434:=.c
def te435 : TE:=⟨false,1,some (.nilf),.oth,none⟩
theorem te435_ok : TeOk Tryz.prog 435 te435:=.c
def te436 : TE:=⟨false,1,some (.nilf),.oth,none⟩
theorem te436_ok : TeOk Tryz.prog 436 te436:=.c
def te438 : TE:=⟨false,1,some (.nilf),.oth,none⟩
theorem te438_ok : TeOk Tryz.prog 438 te438:=.c
def te439 : TE:=⟨false,1,some (.nilf),.oth,none⟩
theorem te439_ok : TeOk Tryz.prog 439 te439:=.c
def te440 : TE:=⟨true,196,some (.agg (List.replicate 196 (.bool false))),.ar 14 true 14,none⟩
theorem te440_ok : TeOk Tryz.prog 440 te440:=.a 356
def te441 : TE:=⟨true,199,some (.agg ([.int .i64 0,.int .i64 0,.sl true []] ++ List.replicate 196 (.bool false))),.st [(0,true,3),(3,true,196)],none⟩
theorem te441_ok : TeOk Tryz.prog 441 te441:=.u
def te442 : TE:=⟨true,199,some (.agg ([.int .i64 0,.int .i64 0,.sl true []] ++ List.replicate 196 (.bool false))),.st [(0,true,3),(3,true,196)],none⟩
theorem te442_ok : TeOk Tryz.prog 442 te442:=.u
def te443 : TE:=⟨false,1,some (.nilf),.oth,none⟩
theorem te443_ok : TeOk Tryz.prog 443 te443:=.c
def te444 : TE:=⟨false,1,some (.nilf),.oth,none⟩
theorem te444_ok : TeOk Tryz.prog 444 te444:=.c
def te445 : TE:=⟨false,1,some (.nilf),.oth,none⟩
theorem te445_ok : TeOk Tryz.prog 445 te445:=.c
def te446 : TE:=⟨true,14,some (.agg [.int .i64 0,.int .i64 0,.int .i64 0,.int .i64 0,.int .i64 0,.int .i64 0,.int .i64 0,.int .i64 0,.int .i64 0,.int .i64 0,.int .i64 0,.int .i64 0,.int .i64 0,.int .i64 0]),.ar 14 false 1,some 14⟩
theorem te446_ok : TeOk Tryz.prog 446 te446:=.aq 3
def te447 : TE:=⟨false,1,some (.nilf),.oth,none⟩
theorem te447_ok : TeOk Tryz.prog 447 te447:=.c
def te448 : TE:=⟨false,1,some (.nilf),.oth,none⟩
theorem te448_ok : TeOk Tryz.prog 448 te448:=.c
def te449 : TE:=⟨false,1,some (.nilf),.oth,none⟩
theorem te449_ok : TeOk Tryz.prog 449 te449:=.c
def te450 : TE:=⟨false,1,some (.nilf),.oth,none⟩
theorem te450_ok : TeOk Tryz.prog 450 te450:=.c
def te451 : TE:=⟨false,1,some (.nilf),.oth,none⟩
theorem te451_ok : TeOk Tryz.prog 451 te451:=.c
def te452 : TE:=⟨false,1,some (.nilf),.oth,none⟩
theorem te452_ok : TeOk Tryz.prog 452 te452:=.c
def te453 : TE:=⟨false,1,some (.nilf),.oth,none⟩
theorem te453_ok : TeOk Tryz.prog 453 te453:=.c
def te454 : TE:=⟨false,1,some (.nilf),.oth,none⟩
theorem te454_ok : TeOk Tryz.prog 454 te454:=.c
def te455 : TE:=⟨false,1,some (.nilf),.oth,none⟩
theorem te455_ok : TeOk Tryz.prog 455 te455:=.c
def te456 : TE:=⟨false,1,some (.nilf),.oth,none⟩
theorem te456_ok : TeOk Tryz.prog 456 te456:=.c
def te457 : TE:=⟨false,1,some (.nilf),.oth,none⟩
theorem te457_ok : TeOk Tryz.prog 457 te457:=.c
def te458 : TE:=⟨false,1,some (.nilf),.oth,none⟩
theorem te458_ok : TeOk Tryz.prog 458 te458:=.c
def te459 : TE:=⟨false,1,some (.nilf),.oth,none⟩
theorem te459_ok : TeOk Tryz.prog 459 te459:=.c
def te460 : TE:=⟨false,1,some (.nilf),.oth,none⟩
theorem te460_ok : TeOk Tryz.prog 460 te460:=.c
def te461 : TE:=⟨false,1,some (.nilf),.oth,none⟩
theorem te461_ok : TeOk Tryz.prog 461 te461:=.c
def te462 : TE:=⟨false,1,some (.nilf),.oth,none⟩
theorem te462_ok : TeOk Tryz.prog 462 te462:=.c
def te463 : TE:=⟨false,1,some (.nilf),.oth,none⟩
theorem te463_ok : TeOk Tryz.prog 463 te463:=.c
def te464 : TE:=⟨false,1,some (.int .u64 0),.int .u64,none⟩
theorem te464_ok : TeOk Tryz.prog 464 te464:=.i
def te465 : TE:=⟨false,1,some (.nilf),.oth,none⟩
theorem te465_ok : TeOk Tryz.prog 465 te465:=.c
def te466 : TE:=⟨false,1,some (.nilf),.oth,none⟩
theorem te466_ok : TeOk Tryz.prog 466 te466:=.c
def te467 : TE:=⟨false,1,some (.nilf),.oth,none⟩
theorem te467_ok : TeOk Tryz.prog 467 te467:=.c
def te468 : TE:=⟨false,1,some (.nilf),.oth,none⟩
theorem te468_ok : TeOk Tryz.prog 468 te468:=.c
def te469 : TE:=⟨false,1,some (.nilf),.oth,none⟩
theorem te469_ok : TeOk Tryz.prog 469 te469:=.c
def te470 : TE:=⟨false,1,some (.nilf),.oth,none⟩
theorem te470_ok : TeOk Tryz.prog 470 te470:=.c
def te471 : TE:=⟨false,1,some (.nilf),.oth,none⟩
theorem te471_ok : TeOk Tryz.prog 471 te471:=.c
def te472 : TE:=⟨true,3,some (.agg [.int .i64 0,.int .i64 0,.int .i64 0]),.st [(0,false,1),(1,true,2)],some 3⟩
theorem te472_ok : TeOk Tryz.prog 472 te472:=.uq
def te473 : TE:=⟨true,3,some (.agg [.int .i64 0,.int .i64 0,.int .i64 0]),.st [(0,false,1),(1,true,2)],some 3⟩
theorem te473_ok : TeOk Tryz.prog 473 te473:=.uq
def te474 : TE:=⟨false,1,some (.nilf),.oth,none⟩
theorem te474_ok : TeOk Tryz.prog 474 te474:=.c
def te476 : TE:=⟨false,1,some (.nilf),.oth,none⟩
theorem te476_ok : TeOk Tryz.prog 476 te476:=.c
def te477 : TE:=⟨false,1,some (.nilf),.oth,none⟩
theorem te477_ok : TeOk Tryz.prog 477 te477:=.c
def te478 : TE:=⟨false,1,some (.nilf),.oth,none⟩
theorem te478_ok : TeOk Tryz.prog 478 te478:=.c
def te479 : TE:=⟨false,1,some (.nilf),.oth,none⟩
theorem te479_ok : TeOk Tryz.prog 479 te479:=.c
def te480 : TE:=⟨false,1,some (.nilf),.oth,none⟩
theorem te480_ok : TeOk Tryz.prog 480 te480:=.c
def te481 : TE:=⟨false,1,some (.nilf),.oth,none⟩
theorem te481_ok : TeOk Tryz.prog 481 te481:=.c
def te482 : TE:=⟨false,1,some (.nilf),.oth,none⟩
theorem te482_ok : TeOk Tryz.prog 482 te482:=.c
def te483 : TE:=⟨false,1,some (.nilf),.oth,none⟩
theorem te483_ok : TeOk Tryz.prog 483 te483:=.c
def te484 : TE:=⟨false,1,some (.nilf),.oth,none⟩
theorem te484_ok : TeOk Tryz.prog 484 te484:=.c
def te485 : TE:=⟨false,1,some (.nilf),.oth,none⟩
theorem te485_ok : TeOk Tryz.prog 485 te485:=.c
def te486 : TE:=⟨false,1,some (.nilf),.oth,none⟩
theorem te486_ok : TeOk Tryz.prog 486 te486:=.c
def te487 : TE:=⟨false,1,some (.nilf),.oth,none⟩
theorem te487_ok : TeOk Tryz.prog 487 te487:=.c
def te488 : TE:=⟨false,1,some (.nilf),.oth,none⟩
theorem te488_ok : TeOk Tryz.prog 488 te488:=.c
def te489 : TE:=⟨false,1,some (.nilf),.oth,none⟩
theorem te489_ok : TeOk Tryz.prog 489 te489:=.c
def te491 : TE:=⟨false,1,some (.nilf),.oth,none⟩
theorem te491_ok : TeOk Tryz.prog 491 te491:=.c
def te492 : TE:=⟨false,1,some (.int .u64 0),.int .u64,none⟩
theorem te492_ok : TeOk Tryz.prog 492 te492:=.i
def te494 : TE:=⟨false,1,some (.nilf),.oth,none⟩
theorem te494_ok : TeOk Tryz.prog 494 te494:=.c
def te495 : TE:=⟨false,1,some (.nilf),.oth,none⟩
theorem te495_ok : TeOk Tryz.prog 495 te495:=.c
def te496 : TE:=⟨false,1,some (.int .i64 0),.int .i64,none⟩
theorem te496_ok : TeOk Tryz.prog 496 te496:=.i
def te498 : TE:=⟨false,1,some (.nilf),.oth,none⟩
theorem te498_ok : TeOk Tryz.prog 498 te498:=.c
def te499 : TE:=⟨false,1,some (.nilf),.oth,none⟩
theorem te499_ok : TeOk Tryz.prog 499 te499:=.c
def te500 : TE:=⟨false,1,some (.nilf),.oth,none⟩
theorem te500_ok : TeOk Tryz.prog 500 te500:=.c
def te501 : TE:=⟨false,1,some (.nilf),.oth,none⟩
theorem te501_ok : TeOk Tryz.prog 501 te501:=.c
def te502 : TE:=⟨false,1,some (.nilf),.oth,none⟩
theorem te502_ok : TeOk Tryz.prog 502 te502:=.c
def te503 : TE:=⟨false,1,some (.nilf),.oth,none⟩
theorem te503_ok : TeOk Tryz.prog 503 te503:=.c
def te504 : TE:=⟨false,1,some (.nilf),.oth,none⟩
theorem te504_ok : TeOk Tryz.prog 504 te504:=.c
def te505 : TE:=⟨false,1,some (.nilf),.oth,none⟩
theorem te505_ok : TeOk Tryz.prog 505 te505:=.c
def te506 : TE:=⟨false,1,some (.int .u64 0),.int .u64,none⟩
theorem te506_ok : TeOk Tryz.prog 506 te506:=.i
def te507 : TE:=⟨false,1,some (.nilf),.oth,none⟩
theorem te507_ok : TeOk Tryz.prog 507 te507:=.c
def te508 : TE:=⟨false,1,some (.nilf),.oth,none⟩
theorem te508_ok : TeOk Tryz.prog 508 te508:=.c
def te509 : TE:=⟨false,1,some (.nilf),.oth,none⟩
theorem te509_ok : TeOk Tryz.prog 509 te509:=.c
def te510 : TE:=⟨false,1,some (.nilf),.oth,none⟩
theorem te510_ok : TeOk Tryz.prog 510 te510:=.c
def te511 : TE:=⟨false,1,some (.nilf),.oth,none⟩
theorem te511_ok : TeOk Tryz.prog 511 te511:=.c
def te512 : TE:=⟨false,1,some (.nilf),.oth,none⟩
theorem te512_ok : TeOk Tryz.prog 512 te512:=.c
def te513 : TE:=⟨false,1,some (.nilp),.oth,none⟩
theorem te513_ok : TeOk Tryz.prog 513 te513:=.c
def te515 : TE:=⟨false,1,some (.nilf),.oth,none⟩
theorem te515_ok : TeOk Tryz.prog 515 te515:=.c
def te516 : TE:=⟨false,1,some (.nilf),.oth,none⟩
theorem te516_ok : TeOk Tryz.prog 516 te516:=.c
def te519 : TE:=⟨true,0,some (.agg []),.ar 0 false 1,none⟩
theorem te519_ok : TeOk Tryz.prog 519 te519:=.a 16
def te520 : TE:=⟨true,0,some (.agg []),.st [(0,true,0)],none⟩
theorem te520_ok : TeOk Tryz.prog 520 te520:=.u
def te524 : TE:=⟨false,1,some (.nilf),.oth,none⟩
theorem te524_ok : TeOk Tryz.prog 524 te524:=.c
def te525 : TE:=⟨false,1,some (.nilp),.oth,none⟩
theorem te525_ok : TeOk Tryz.prog 525 te525:=.c
def te528 : TE:=⟨true,11,some (.agg [.int .u64 0,.int .u64 0,.int .u32 0,.int .u8 0,.int .u8 0,.int .u8 0,.int .u8 0,.nilf,.nilp,.int .i32 0,.int .i32 0]),.st [(0,false,1),(1,false,1),(2,false,1),(3,false,1),(4,false,1),(5,false,1),(6,false,1),(7,false,1),(8,false,1),(9,false,1),(10,false,1)],none⟩
theorem te528_ok : TeOk Tryz.prog 528 te528:=.u
def tab : Tab:=[none,some te1,some te2,some te3,some te4,some te5,none,some te7,none,none,none,none,some te12,none,none,none,none,none,some te18,none,none,some te21,some te22,some te23,some te24,some te25,some te26,some te27,some te28,some te29,some te30,some te31,some te32,some te33,some te34,some te35,some te36,none,some te38,some te39,some te40,some te41,some te42,some te43,some te44,some te45,some te46,some te47,some te48,some te49,some te50,some te51,some te52,none,some te54,some te55,some te56,some te57,some te58,some te59,some te60,some te61,some te62,some te63,some te64,some te65,some te66,some te67,some te68,some te69,some te70,some te71,none,some te73,none,some te75,some te76,none,some te78,some te79,some te80,some te81,some te82,some te83,some te84,some te85,some te86,some te87,some te88,some te89,some te90,some te91,some te92,some te93,some te94,some te95,none,some te97,some te98,none,some te100,none,some te102,some te103,some te104,some te105,some te106,some te107,some te108,some te109,some te110,none,some te112,some te113,some te114,none,some te116,some te117,some te118,some te119,some te120,some te121,some te122,none,some te124,some te125,some te126,some te127,some te128,some te129,some te130,some te131,some te132,some te133,some te134,none,some te136,none,some te138,some te139,some te140,none,some te142,some te143,some te144,some te145,none,some te147,some te148,some te149,some te150,some te151,some te152,some te153,some te154,some te155,some te156,some te157,some te158,some te159,some te160,some te161,some te162,none,some te164,some te165,some te166,some te167,some te168,some te169,some te170,some te171,some te172,some te173,none,some te175,some te176,none,some te178,some te179,some te180,some te181,some te182,some te183,some te184,some te185,some te186,some te187,some te188,none,some te190,none,some te192,some te193,some te194,some te195,some te196,some te197,some te198,some te199,some te200,some te201,some te202,none,some te204,some te205,some te206,some te207,some te208,some te209,some te210,some te211,some te212,some te213,some te214,some te215,some te216,some te217,some te218,some te219,some te220,some te221,some te222,some te223,none,some te225,some te226,none,some te228,some te229,some te230,none,some te232,some te233,some te234,some te235,some te236,some te237,some te238,some te239,some te240,some te241,some te242,some te243,some te244,some te245,some te246,some te247,some te248,some te249,some te250,some te251,some te252,some te253,some te254,some te255,some te256,some te257,some te258,some te259,some te260,some te261,some te262,some te263,some te264,none,some te266,some te267,some te268,some te269,some te270,some te271,some te272,some te273,some te274,none,some te276,some te277,some te278,some te279,some te280,some te281,some te282,some te283,some te284,some te285,some te286,some te287,some te288,some te289,some te290,some te291,some te292,some te293,some te294,some te295,some te296,some te297,some te298,some te299,some te300,some te301,some te302,some te303,none,some te305,some te306,some te307,some te308,some te309,some te310,some te311,some te312,some te313,some te314,some te315,some te316,none,some te318,some te319,some te320,some te321,some te322,some te323,some te324,some te325,some te326,some te327,some te328,some te329,some te330,some te331,some te332,some te333,some te334,none,some te336,some te337,some te338,some te339,some te340,some te341,some te342,some te343,some te344,some te345,some te346,some te347,some te348,none,some te350,some te351,some te352,some te353,some te354,some te355,some te356,some te357,some te358,some te359,some te360,some te361,some te362,some te363,some te364,some te365,some te366,some te367,some te368,some te369,some te370,some te371,some te372,some te373,some te374,some te375,some te376,some te377,some te378,some te379,some te380,some te381,some te382,some te383,some te384,some te385,some te386,some te387,some te388,some te389,some te390,some te391,some te392,some te393,some te394,some te395,some te396,some te397,some te398,some te399,some te400,some te401,some te402,some te403,none,some te405,some te406,some te407,some te408,some te409,some te410,some te411,some te412,some te413,some te414,some te415,some te416,some te417,some te418,some te419,some te420,some te421,some te422,some te423,some te424,some te425,some te426,some te427,some te428,some te429,some te430,some te431,some te432,some te433,some te434,some te435,some te436,none,some te438,some te439,some te440,some te441,some te442,some te443,some te444,some te445,some te446,some te447,some te448,some te449,some te450,some te451,some te452,some te453,some te454,some te455,some te456,some te457,some te458,some te459,some te460,some te461,some te462,some te463,some te464,some te465,some te466,some te467,some te468,some te469,some te470,some te471,some te472,some te473,some te474,none,some te476,some te477,some te478,some te479,some te480,some te481,some te482,some te483,some te484,some te485,some te486,some te487,some te488,some te489,none,some te491,some te492,none,some te494,some te495,some te496,none,some te498,some te499,some te500,some te501,some te502,some te503,some te504,some te505,some te506,some te507,some te508,some te509,some te510,some te511,some te512,some te513,none,some te515,some te516,none,none,some te519,some te520,none,none,none,some te524,some te525,none,none,some te528]
theorem za : zr Tryz.prog tab:=⟨te1_ok,te2_ok,te3_ok,te4_ok,te5_ok,te7_ok,te12_ok,te18_ok,te21_ok,te22_ok,te23_ok,te24_ok,te25_ok,te26_ok,te27_ok,te28_ok,te29_ok,te30_ok,te31_ok,te32_ok,te33_ok,te34_ok,te35_ok,te36_ok,te38_ok,te39_ok,te40_ok,te41_ok,te42_ok,te43_ok,te44_ok,te45_ok,te46_ok,te47_ok,te48_ok,te49_ok,te50_ok,te51_ok,te52_ok,te54_ok,te55_ok,te56_ok,te57_ok,te58_ok,te59_ok,te60_ok,te61_ok,te62_ok,te63_ok,te64_ok,te65_ok,te66_ok,te67_ok,te68_ok,te69_ok,te70_ok,te71_ok,te73_ok,te75_ok,te76_ok,te78_ok,te79_ok,te80_ok,te81_ok,te82_ok,te83_ok,te84_ok,te85_ok,te86_ok,te87_ok,te88_ok,te89_ok,te90_ok,te91_ok,te92_ok,te93_ok,te94_ok,te95_ok,te97_ok,te98_ok,te100_ok,te102_ok,te103_ok,te104_ok,te105_ok,te106_ok,te107_ok,te108_ok,te109_ok,te110_ok,te112_ok,te113_ok,te114_ok,te116_ok,te117_ok,te118_ok,te119_ok,te120_ok,te121_ok,te122_ok,te124_ok,te125_ok,te126_ok,te127_ok,te128_ok,te129_ok,te130_ok,te131_ok,te132_ok,te133_ok,te134_ok,te136_ok,te138_ok,te139_ok,te140_ok,te142_ok,te143_ok,te144_ok,te145_ok,te147_ok,te148_ok,te149_ok,te150_ok,te151_ok,te152_ok,te153_ok,te154_ok,te155_ok,te156_ok,te157_ok,te158_ok,te159_ok,te160_ok,te161_ok,te162_ok,te164_ok,te165_ok,te166_ok,te167_ok,te168_ok,te169_ok,te170_ok,te171_ok,te172_ok,te173_ok,te175_ok,te176_ok,te178_ok,te179_ok,te180_ok,te181_ok,te182_ok,te183_ok,te184_ok,te185_ok,te186_ok,te187_ok,te188_ok,te190_ok,te192_ok,te193_ok,te194_ok,te195_ok,te196_ok,te197_ok,te198_ok,te199_ok,te200_ok,te201_ok,te202_ok,te204_ok,te205_ok,te206_ok,te207_ok,te208_ok,te209_ok,te210_ok,te211_ok,te212_ok,te213_ok,te214_ok,te215_ok,te216_ok,te217_ok,te218_ok,te219_ok,te220_ok,te221_ok,te222_ok,te223_ok,te225_ok,te226_ok,te228_ok,te229_ok,te230_ok,te232_ok,te233_ok,te234_ok,te235_ok,te236_ok,te237_ok,te238_ok,te239_ok,te240_ok,te241_ok,te242_ok,te243_ok,te244_ok,te245_ok,te246_ok,te247_ok,te248_ok,te249_ok,te250_ok,te251_ok,te252_ok,te253_ok,te254_ok,te255_ok,te256_ok,te257_ok,te258_ok,te259_ok,te260_ok,te261_ok,te262_ok,te263_ok,te264_ok,te266_ok,te267_ok,te268_ok,te269_ok,te270_ok,te271_ok,te272_ok,te273_ok,te274_ok,te276_ok,te277_ok,te278_ok,te279_ok,te280_ok,te281_ok,te282_ok,te283_ok,te284_ok,te285_ok,te286_ok,te287_ok,te288_ok,te289_ok,te290_ok,te291_ok,te292_ok,te293_ok,te294_ok,te295_ok,te296_ok,te297_ok,te298_ok,te299_ok,te300_ok,te301_ok,te302_ok,te303_ok,te305_ok,te306_ok,te307_ok,te308_ok,te309_ok,te310_ok,te311_ok,te312_ok,te313_ok,te314_ok,te315_ok,te316_ok,te318_ok,te319_ok,te320_ok,te321_ok,te322_ok,te323_ok,te324_ok,te325_ok,te326_ok,te327_ok,te328_ok,te329_ok,te330_ok,te331_ok,te332_ok,te333_ok,te334_ok,te336_ok,te337_ok,te338_ok,te339_ok,te340_ok,te341_ok,te342_ok,te343_ok,te344_ok,te345_ok,te346_ok,te347_ok,te348_ok,te350_ok,te351_ok,te352_ok,te353_ok,te354_ok,te355_ok,te356_ok,te357_ok,te358_ok,te359_ok,te360_ok,te361_ok,te362_ok,te363_ok,te364_ok,te365_ok,te366_ok,te367_ok,te368_ok,te369_ok,te370_ok,te371_ok,te372_ok,te373_ok,te374_ok,te375_ok,te376_ok,te377_ok,te378_ok,te379_ok,te380_ok,te381_ok,te382_ok,te383_ok,te384_ok,te385_ok,te386_ok,te387_ok,te388_ok,te389_ok,te390_ok,te391_ok,te392_ok,te393_ok,te394_ok,te395_ok,te396_ok,te397_ok,te398_ok,te399_ok,te400_ok,te401_ok,te402_ok,te403_ok,te405_ok,te406_ok,te407_ok,te408_ok,te409_ok,te410_ok,te411_ok,te412_ok,te413_ok,te414_ok,te415_ok,te416_ok,te417_ok,te418_ok,te419_ok,te420_ok,te421_ok,te422_ok,te423_ok,te424_ok,te425_ok,te426_ok,te427_ok,te428_ok,te429_ok,te430_ok,te431_ok,te432_ok,te433_ok,te434_ok,te435_ok,te436_ok,te438_ok,te439_ok,te440_ok,te441_ok,te442_ok,te443_ok,te444_ok,te445_ok,te446_ok,te447_ok,te448_ok,te449_ok,te450_ok,te451_ok,te452_ok,te453_ok,te454_ok,te455_ok,te456_ok,te457_ok,te458_ok,te459_ok,te460_ok,te461_ok,te462_ok,te463_ok,te464_ok,te465_ok,te466_ok,te467_ok,te468_ok,te469_ok,te470_ok,te471_ok,te472_ok,te473_ok,te474_ok,te476_ok,te477_ok,te478_ok,te479_ok,te480_ok,te481_ok,te482_ok,te483_ok,te484_ok,te485_ok,te486_ok,te487_ok,te488_ok,te489_ok,te491_ok,te492_ok,te494_ok,te495_ok,te496_ok,te498_ok,te499_ok,te500_ok,te501_ok,te502_ok,te503_ok,te504_ok,te505_ok,te506_ok,te507_ok,te508_ok,te509_ok,te510_ok,te511_ok,te512_ok,te513_ok,te515_ok,te516_ok,te519_ok,te520_ok,te524_ok,te525_ok,te528_ok,trivial⟩
end GA
end
section
namespace GA
open Go Go.RowKit
def xPend (P : Program) (T : Tab) (N : Nat) (own : List Nat) (Q : Post) (D : List Nat) (σ : St) (H : List Blk) (pend : Option Code) : Prop:=
 match pend with
 | none=>Q .normal D σ H
 | some c=>XRun P T N none own c Q D σ H
def fk (P : Program) (T : Tab) (N : Nat) (own : List Nat) (Q : Post) (D : List Nat) (σ : St) (i : Nat) (H : List Blk) : Prop:=
 match lget H i with
 | some (.lp st pend _ _ _ _ _ _)=>match st with
   | .busy=>False
   | _=>hset H i .dead fun H'=>xPend P T N own Q D σ H' pend
 | _=>False
def xPuts : List Nat -> List AV -> St -> Option St
 | [],[],σ=>some σ
 | t :: ts,r :: rs,σ=>xPuts ts rs (updX σ t r)
 | _,_,_=>none
def xRound (i : Nat) (K : AV -> List Blk -> Prop) : Post:=fun e _ _ H =>
 match lget H i with
 | some (.lp _ _ f tm ps x y n)=>match e with
   | .normal=>hset H i (.lp .ready none f tm ps x y n) fun H'=>K (.bool true) H'
   | .ret=>hset H i (.lp .done (some .ret) f tm ps x y n) fun H'=>K (.bool false) H'
   | .exit id=>hset H i (.lp .done (some (.exit id)) f tm ps x y n) fun H'=>K (.bool false) H'
   | _=>False
 | _=>False
def xBegin (P : Program) (T : Tab) (own : List Nat) (i : Nat) (K : AV -> List Blk -> Prop) (ρ : Option Nat) : Post:=fun e D σ H =>
 match e,lget H i with
 | .normal,some (.lp .ready pend f tm ps x y n)=>hset H i (.lp .busy pend f tm ps x y n) fun H'=>XRun P T n ρ own y (xRound i K) D σ H'
 | _,_=>False
section
variable {P : Program} {T : Tab} {N : Nat} {ρ : Option Nat} {own : List Nat} {E : Env} {h : Nat -> Option Obj} {β : Nat -> Value} {H : List Blk} {w : World} {σ : St} {a : Act} {D : List Nat}
theorem ge : ∀ {ts : List Nat} {rs : List AV} {vs : List Value} {σ σ' : St} {tmps : Array Value},xPuts ts rs σ = some σ' -> RepL P h β H rs vs -> (∀ t ∈ ts,t < tmps.size) ->
  (∀ t r,σ t = some r -> ∃ v,tmps[t]? = some v /\ Rep P h β H r v) -> vs.length = ts.length /\
  ∀ t r,σ' t = some r -> ∃ v,((ts.zip vs).foldl (fun (tmps : Array Value) (x : Nat × Value)=>tmps.setIfInBounds x.1 x.2) tmps)[t]? = some v /\ Rep P h β H r v
 | [],[],vs,σ,σ',tmps,e,hr,_,F=>by
   cases e
   have : vs = []:=List.eq_nil_of_length_eq_zero hr.1
   subst this;exact ⟨rfl,F⟩
 | t :: ts,r :: rs,vs,σ,σ',tmps,e,hr,hb,F=>by
   cases vs with
   | nil=>have:=hr.1;simp at this
   | cons v vs =>
     obtain ⟨v',e1,e2⟩:=hr.2 0 r rfl
     simp at e1;subst e1
     have hr' : RepL P h β H rs vs:=⟨by have:=hr.1;simpa using this,fun j x ex=>by have:=hr.2 (j + 1) x (by simpa using ex);simpa using this⟩
     have F' : ∀ u x,updX σ t r u = some x -> ∃ y,(tmps.setIfInBounds t v)[u]? = some y /\ Rep P h β H x y:=by
      intro u x ex
      rw [yl] at ex;unfold upd at ex
      by_cases hu : u = t
      ·subst hu;simp at ex;subst ex
       exact ⟨v,by simp [hb u (by simp)],e2⟩
      ·simp [hu] at ex
       obtain ⟨y,g1,g2⟩:=F u x ex
       exact ⟨y,by rw [Array.getElem?_setIfInBounds_ne (Ne.symm hu)];exact g1,g2⟩
     obtain ⟨g1,g2⟩:=ge (tmps:=tmps.setIfInBounds t v) (show xPuts ts rs (updX σ t r) = some σ' from e) hr' (fun u hu=>by simpa using hb u (by simp [hu])) F'
     exact ⟨by simp [g1],by simpa using g2⟩
 | [],_ :: _,_,_,_,_,e,_,_,_=>by cases e
 | _ :: _,[],_,_,_,_,e,_,_,_=>by cases e
theorem Walk.range {g : Operand} {ps : Array Tmp} {assign body : Code} {Q : Post} {f : FuncId} {caps : List AV} (ok : zr P T) (tm : List (Nat × AV)) (hg : ev σ g = some (.fn f caps)) (ht : SubX tm σ)
  (x : ∀ fn,zf P f (.yld (H.length + 1) :: caps) (H ++ [.raw (.deferred (some []))] ++ [.lp .ready none fn tm ps assign body N]) fun _ H'=>fk P T N own Q (H.length :: D) σ (H.length + 1) H') :
  Walk P N none (.rangeFunc g ps assign body) Q D σ H:=by
 constructor
 intro E h β a w s
 refine wpIn_rangeFunc fun fn _=>?_
 have hf:=s.fits.ev hg
 generalize hv : a.eval g = fval at hf
 cases hf with
 | @fn _ _ vs us hs hc hr =>
   obtain ⟨hent,hcall⟩:=(x fn).o
   let w1:=(w.alloc (.deferred (some []))).alloc (.loop { state:=.ready,pending:=none,fn,tmps:=a.tmps,params:=ps,assign,body,defers:=w.heap.size })
   -- the blocks
   obtain ⟨s1,X1⟩:=s.sr.push (w':=w.alloc (.deferred (some []))) s.sr.env (fun k hk=>Below.heap_alloc _ _ _ hk) (.pointer (some ⟨w.heap.size,0,none⟩)) (.raw (.deferred (some []))) (by intro b hb;simp [anchor] at hb;omega)
    (fun X=>⟨w.heap.size,by simp [upb],heap_alloc_new w _⟩)
   have hsz : (w.alloc (.deferred (some []))).heap.size = w.heap.size + 1:=World.size_alloc _ _
   obtain ⟨s2,X2⟩:=s1.push (w':=w1) s.sr.env (fun k hk=>Below.heap_alloc _ _ _ hk) (.pointer (some ⟨w.heap.size + 1,0,none⟩)) (.lp .ready none fn tm ps assign body N) (by intro b hb;simp [anchor] at hb;omega)
    (fun X=>⟨w.heap.size + 1,w.heap.size,a.tmps,by simp [upb],by rw [<- hsz];exact heap_alloc_new _ _,s.size,fun t r e=>by
     have : σ t = some r:=by
      have : ∀ (l : List (Nat × AV)),SubX l σ -> (t,r) ∈ l -> σ t = some r:=by
       intro l;induction l with
       | nil=>intro _ h;cases h
       | cons p l ih=>intro h1 h2;rcases List.mem_cons.1 h2 with h2 | h2
                      ·subst h2;exact h1.1
                      ·exact ih h1.2 h2
      exact this tm ht e
     obtain ⟨v,e1,e2⟩:=s.fits t r this
     exact ⟨v,e1,X.rep (X1.rep e2)⟩⟩)
   have hl2 : (H ++ [Blk.raw (.deferred (some []))]).length = H.length + 1:=by simp
   rw [hl2] at s2 X2
   have X:=X1.trans X2
   have hlp : (H ++ [Blk.raw (.deferred (some []))] ++ [Blk.lp .ready none fn tm ps assign body N])[H.length + 1]? = some (.lp .ready none fn tm ps assign body N):=by
    rw [List.getElem?_append_right (by simp)];simp
   have hraw : (H ++ [Blk.raw (.deferred (some []))] ++ [Blk.lp .ready none fn tm ps assign body N])[H.length]? = some (.raw (.deferred (some []))):=by
    rw [List.getElem?_append_left (by simp),List.getElem?_append_right (by simp)];simp
   have hy : Rep P h (upb (upb β H.length (.pointer (some ⟨w.heap.size,0,none⟩))) (H.length + 1) (.pointer (some ⟨w.heap.size + 1,0,none⟩))) (H ++ [.raw (.deferred (some []))] ++ [.lp .ready none fn tm ps assign body N]) (.yld (H.length + 1)) (.func (.yield (w.heap.size + 1)) #[] #[]):=
    .yld (.of hlp rfl) fun y _ _=>by simp [upb]
   have hmk : Rep P h (upb (upb β H.length (.pointer (some ⟨w.heap.size,0,none⟩))) (H.length + 1) (.pointer (some ⟨w.heap.size + 1,0,none⟩))) (H ++ [.raw (.deferred (some []))] ++ [.lp .ready none fn tm ps assign body N]) (.yld H.length) (.func (.yield w.heap.size) #[] #[]):=
    .yld (.of hraw rfl) fun y _ _=>by simp [upb]
   have hargs : RepL P h (upb (upb β H.length (.pointer (some ⟨w.heap.size,0,none⟩))) (H.length + 1) (.pointer (some ⟨w.heap.size + 1,0,none⟩))) (H ++ [.raw (.deferred (some []))] ++ [.lp .ready none fn tm ps assign body N]) (.yld (H.length + 1) :: caps) (.func (.yield (w.heap.size + 1)) #[] #[] :: vs.toList):=
    .cons hy ⟨by simpa using hs,fun j y e=>⟨us j,by simpa using hc j y e,X.rep (hr j y e)⟩⟩
   have hres : (resolve a.eval (rangeCall g (w.heap.size + 1)) 0).run P w1 = .ok { target:=.fn (.func f) vs,args:=#[.func (.yield (w.heap.size + 1)) #[] #[]] } w1:=by
    have hcst : ∀ v,a.eval (.const v) = v:=fun _=>rfl
    simp [resolve,hv,Deferred.ofValue,hcst]
   have hinv : (invoke (.fn (.func f) vs) #[.func (.yield (w.heap.size + 1)) #[] #[]]).run P w1 = .ok (.enter f (.func (.yield (w.heap.size + 1)) #[] #[] :: vs.toList).toArray) w1:=by
    have : (#[Value.func (.yield (w.heap.size + 1)) #[] #[]] ++ vs) = (.func (.yield (w.heap.size + 1)) #[] #[] :: vs.toList).toArray:=by apply Array.ext';simp
    simp only [invoke,jo hent,this]
   refine ⟨w.heap.size + 1,_,w1,_,w1,f,_,w1,run_enterLoop_outer fn a.tmps ps assign body,hres,fun _ _=>trivial,hinv,fun h=>by simp at h,?_⟩
   have hc2:=hcall E h _ w1 _ s2 hargs
   refine (show CallsIn (FW none) (0 - 1) P f _ w1 _ from hc2.mono ?_)
   rintro e w' ⟨r,H',h',β',v,rfl,hk,X',s',_⟩
   -- the end
   unfold fk at hk
   split at hk
   case h_2=>exact hk.elim
   rename_i st pend f' tm' ps' as' bo' n' hl
   rw [zl] at hl
   have hto:=X'.to _ _ _ hlp hl
   rcases hto with hd | ⟨st2,pend2,he,hβ⟩
   ·cases hd
   ·cases he
    have hβ1 : β' (H.length + 1) = .pointer (some ⟨w.heap.size + 1,0,none⟩):=by rw [hβ];simp [upb]
    obtain ⟨b,dfr,tmps,h1,h2,h3,h4⟩:=s'.blk _ _ hl
    rw [hβ1] at h1;cases h1
    have hnb : st ≠ .busy:=by rintro rfl;exact hk
    have hk2 : hset H' (H.length + 1) .dead fun H'=>xPend P T N own Q (H.length :: D) σ H' pend:=by
     cases st with
     | busy=>exact hk.elim
     | ready=>exact hk
     | done=>exact hk
     | exhausted=>exact hk
    obtain ⟨hlt,hk3⟩:=zF hk2
    have hbo : blkOf β' H' (H.length + 1) = some (w.heap.size + 1):=by simp only [blkOf,hl,hβ1];rfl
    obtain ⟨s3,X3⟩:=s'.modify (β':=β') (w':=w'.putObj (w.heap.size + 1) (.loop { state:=.exhausted,pending:=pend,fn:=fn,tmps:=tmps,params:=ps,assign:=assign,body:=body,defers:=dfr })) (x':=.dead) hl (fun _ _=>rfl) (.inl rfl) s'.env
     (fun q _ hn=>World.putObj_heap_other (fun e=>hn (by rw [hbo,e]))) (fun b e=>.inl (by rw [hbo];rw [hβ1] at e;exact e)) (fun _=>trivial)
    have Xall:=X.trans (X'.trans X3)
    have hst : yC P E N h' β' (H.length :: D) σ (H'.set (H.length + 1) .dead) { a with defers:=[{ target:=.collected w.heap.size,args:=#[] }] ++ a.defers } (w'.putObj (w.heap.size + 1) (.loop { state:=.exhausted,pending:=pend,fn:=fn,tmps:=tmps,params:=ps,assign:=assign,body:=body,defers:=dfr })):=by
     exact ⟨s3,s.fits.ext Xall,s.size,⟨(s.df.ext Xall).en,.own ((X'.trans X3).rep hmk) (s.df.ext Xall).l⟩⟩
    refine ⟨pend,_,run_endLoop h2 hnb,?_⟩
    cases pend with
    | none=>exact ⟨_,_,_,_,_,hk3,Xall,hst⟩
    | some c=>exact wpIn_mono (XRun.sound ok hk3 E h' β' _ _ hst) fun _ _ _=>Conc.ext Xall
theorem yK.go {i : Nat} {rs : List AV} {K : AV -> List Blk -> Prop} {pend : Option Code} {f : FuncId} {tm : List (Nat × AV)} {ps : Array Tmp} {assign body : Code} {σ0 : St} (ok : zr P T) (hl : lget H i = some (.lp .ready pend f tm ps assign body N)) (hp : xPuts ps.toList rs (stX tm) = some σ0)
  (hb : ∀ t ∈ ps.toList,t < N) (x : ∀ ρ,XRun P T N ρ own assign (xBegin P T own i K ρ) [] σ0 H) : yK P i rs H K:=by
 rw [zl] at hl
 refine ⟨(List.getElem?_eq_some_iff.1 hl).1,fun E h β w b vs s hr hβ=>?_⟩
 have hβ:=hβ _ hl rfl
 obtain ⟨b',dfr,tmps,h1,h2,h3,h4⟩:=s.blk _ _ hl
 rw [hβ] at h1;cases h1
 obtain ⟨hlen,F⟩:=ge (tmps:=tmps) hp hr (fun t ht=>by rw [h3];exact hb t ht) (fun t r e=>by
  have : ∀ (l : List (Nat × AV)),stX l t = some r -> (t,r) ∈ l:=by
   intro l;induction l with
   | nil=>intro h;cases h
   | cons p l ih =>
     obtain ⟨u,x⟩:=p
     intro h;simp only [stX,yl,upd] at h
     split at h
     ·rename_i e;cases h;subst e;exact List.mem_cons_self
     ·exact List.mem_cons_of_mem _ (ih h)
  exact h4 t r (this tm e))
 have hzip : ((ps.zip vs.toArray).foldl (fun (tmps : Array Value) (x : Nat × Value)=>tmps.setIfInBounds x.1 x.2) tmps) = ((ps.toList.zip vs).foldl (fun (tmps : Array Value) (x : Nat × Value)=>tmps.setIfInBounds x.1 x.2) tmps):=by
  rw [<- Array.foldl_toList];simp
 refine ⟨f,_,assign,body,run_yield h2 (by simp [hlen]),?_⟩
 refine roundIn_of_wpIn trivial ?_
 have hF : (FW none).inRound b = FW (some b):=rfl
 rw [hF]
 have hsz : ∀ (l : List (Nat × Value)) (tmps : Array Value),(l.foldl (fun (tmps : Array Value) (x : Nat × Value)=>tmps.setIfInBounds x.1 x.2) tmps).size = tmps.size:=by
  intro l;induction l with
  | nil=>intro _;rfl
  | cons p l ih=>intro tmps;simp [ih]
 have st0 : yC P ⟨E.b,E.fr,h⟩ N h β [] σ0 H { tmps:=(ps.zip vs.toArray).foldl (fun (tmps : Array Value) (x : Nat × Value)=>tmps.setIfInBounds x.1 x.2) tmps,defers:=[] } w:=
  ⟨s.en h,fun t r e=>by rw [hzip];exact F t r e,by rw [hzip];exact (hsz _ _).trans h3,⟨fun _ _ e=>e,.nil⟩⟩
 refine wpIn_mono (XRun.sound ok (x (some b)) ⟨E.b,E.fr,h⟩ h β _ w st0) ?_
 rintro e a1 w1 ⟨D1,σ1,H1,h1',β1,q,X1,s1⟩
 have hq : e = .normal /\ ∃ pend' f' tm' ps' x' y' n',lget H1 i = some (.lp .ready pend' f' tm' ps' x' y' n') /\ hset H1 i (.lp .busy pend' f' tm' ps' x' y' n') fun H'=>XRun P T n' (some b) own y' (xRound i K) D1 σ1 H':=by
  unfold xBegin at q;split at q
  ·rename_i hh;exact ⟨rfl,_,_,_,_,_,_,_,hh,q⟩
  ·exact q.elim
 obtain ⟨rfl,pend',f',tm',ps',x',y',n',g1,g2⟩:=hq
 rw [zl] at g1
 have hβ1 : β1 i = β i /\ body = y' /\ N = n':=by
  rcases X1.to _ _ _ hl g1 with hd | ⟨_,_,he,hb1⟩
  ·cases hd
  ·cases he;exact ⟨hb1,rfl,rfl⟩
 obtain ⟨hβ1,rfl,rfl⟩:=hβ1
 rw [hβ] at hβ1
 obtain ⟨b',dfr',tmps',k1,k2,k3,k4⟩:=s1.sr.blk _ _ g1
 rw [hβ1] at k1;cases k1
 obtain ⟨hlt,g3⟩:=zF g2
 refine ⟨_,run_beginRound k2 rfl,?_⟩
 have hbo : blkOf β1 H1 i = some b:=by simp only [blkOf,g1,hβ1];rfl
 have hbs : b < w1.heap.size:=(Array.getElem?_eq_some_iff.1 k2).1
 obtain ⟨s2,X2⟩:=s1.sr.modify (β':=β1) (w':=w1.putObj b (.loop { state:=.busy,pending:=pend',fn:=f',tmps:=tmps',params:=ps',assign:=x',body:=body,defers:=dfr' })) (x':=.lp .busy pend' f' tm' ps' x' body N) g1 (fun _ _=>rfl) (.inr ⟨_,_,rfl,rfl⟩) s1.sr.env
  (fun q _ hn=>World.putObj_heap_other (fun e=>hn (by rw [hbo,e]))) (fun b e=>.inl (by rw [hbo];rw [hβ1] at e;exact e)) (fun X=>⟨b,dfr',tmps',hβ1,World.putObj_heap_same hbs,k3,fun t r e=>let ⟨v,p1,p2⟩:=k4 t r e;⟨v,p1,X.rep p2⟩⟩)
 refine wpIn_mono (XRun.sound ok g3 ⟨E.b,E.fr,h⟩ _ _ _ _ ⟨s2,s1.fits.ext X2,s1.size,s1.df.ext X2⟩) ?_
 rintro e a3 w3 ⟨D3,σ3,H3,h3',β3,q3,X3,s3⟩
 unfold xRound at q3
 split at q3
 case h_2=>exact q3.elim
 rename_i st4 pend4 f4 tm4 ps4 x4 y4 n4 m1
 rw [zl] at m1
 have hg2 : (H1.set i (.lp .busy pend' f' tm' ps' x' body N))[i]? = some (.lp .busy pend' f' tm' ps' x' body N):=by simp [hlt]
 have hβ3 : β3 i = .pointer (some ⟨b,0,none⟩):=by
  rcases X3.to _ _ _ hg2 m1 with hd | ⟨_,_,he,hb1⟩
  ·cases hd
  ·rw [hb1,hβ1]
 obtain ⟨b',dfr4,tmps4,o1,o2,o3,o4⟩:=s3.sr.blk _ _ m1
 rw [hβ3] at o1;cases o1
 have hbo3 : blkOf β3 H3 i = some b:=by simp only [blkOf,m1,hβ3];rfl
 have hbs3 : b < w3.heap.size:=(Array.getElem?_eq_some_iff.1 o2).1
 have Xto:=X1.trans (X2.trans X3)
 have fin : ∀ (jump : Option Code) (st' : LoopState),st' = (if jump.isNone then .ready else .done) -> (hset H3 i (.lp st' jump f4 tm4 ps4 x4 y4 n4) fun H'=>K (.bool jump.isNone) H') ->
   ∃ v w',(Instr.endRound b jump).run P w3 = .ok v w' /\ Ends P E h β H K (.returned v) w':=by
  intro jump st' hst hk
  subst hst
  obtain ⟨_,hk2⟩:=zF hk
  obtain ⟨s4,X4⟩:=s3.sr.modify (β':=β3) (w':=w3.putObj b (.loop { state:=(if jump.isNone then .ready else .done),pending:=jump,fn:=f4,tmps:=tmps4,params:=ps4,assign:=x4,body:=y4,defers:=dfr4 })) (x':=.lp (if jump.isNone then .ready else .done) jump f4 tm4 ps4 x4 y4 n4) m1 (fun _ _=>rfl) (.inr ⟨_,_,rfl,rfl⟩) s3.sr.env
   (fun q _ hn=>World.putObj_heap_other (fun e=>hn (by rw [hbo3,e]))) (fun b e=>.inl (by rw [hbo3];rw [hβ3] at e;exact e)) (fun X=>⟨b,dfr4,tmps4,hβ3,World.putObj_heap_same hbs3,o3,fun t r e=>let ⟨v,p1,p2⟩:=o4 t r e;⟨v,p1,X.rep p2⟩⟩)
  refine ⟨_,_,run_endRound jump o2,.bool jump.isNone,_,_,_,_,rfl,hk2,Xto.trans X4,?_,.bool _⟩
  exact s4.unen
 cases e with
 | normal=>exact fin none .ready rfl q3
 | ret=>exact fin (some .ret) .done rfl q3
 | exit id=>exact fin (some (.exit id)) .done rfl q3
 | _=>exact q3.elim
end
end GA
end
section
namespace GA
open Go Go.RowKit
def vt : List Nat -> List Blk -> (List Blk -> Prop) -> Prop
 | [],H,k=>k H
 | i :: D,H,k=>match lget H i with
   | some (.raw (.deferred (some [])))=>hset H i (.raw (.deferred none)) fun H'=>vt D H' k
   | _=>False
def XIn (T : Tab) (res : List ResultVar) (k : AV -> List Blk -> Prop) : Post:=fun e D σ H =>
 match e with
 | .normal | .ret=>vt D H fun H'=>xRes T σ H' res fun rs=>k (pack rs) H'
 | _=>False
def XFm (P : Program) (T : Tab) (res : List ResultVar) (r0 : AV) : Post:=XIn T res fun r H=>XOut P H r r0
section
variable {P : Program} {T : Tab} {N : Nat} {ρ : Option Nat} {own : List Nat} {E : Env} {h : Nat -> Option Obj} {β : Nat -> Value} {H : List Blk} {w : World} {σ : St} {a : Act}
theorem qr {fn : Func} {k : AV -> List Blk -> Prop} {h0 : Nat -> Option Obj} {β0 : Nat -> Value} {H0 : List Blk} (ok : zr P T) (hen : ∀ b,E.en b = none -> h0 b = none) : ∀ (ds : List Deferred) (D : List Nat) (h : Nat -> Option Obj) (β : Nat -> Value) (H : List Blk) (w : World),Ext h0 β0 H0 h β H -> SR P E h β H w -> Fits P h β H σ a -> DfOk P E h β H D ds ->
   vt D H (fun H'=>xRes T σ H' fn.results.toList fun rs=>k (pack rs) H') -> LeavesInM (FW none) 0 P fn a.tmps (Ends P E h0 β0 H0 k) ds .returning w
 | [],D,h,β,H,w,X,s,F,df,hk=>by
   obtain ⟨_,df⟩:=df
   cases df
   obtain ⟨v,rs,e1,e2,e3⟩:=vQ (fn:=fn) s F (jn ok hk)
   exact ⟨v,e1,pack rs,H,h,β,v,rfl,e3,X,s,e2⟩
 | d :: ds,D,h,β,H,w,X,s,F,⟨hen2,df⟩,hk=>by
   cases df with
   | @lost b _ _ hb he nd t =>
     have h4:=s.imm _ _ hb
     have htake:=run_takeDeferred (P:=P) h4
     refine ⟨by simp,.inl ⟨b,_,rfl,htake,?_⟩⟩
     exact qr ok hen ds D _ β H _ (X.hid (hen _ he)) (s.hid hb _) (F.hid hb) (DfOk.hid hb he ⟨hen2,t⟩ nd) hk
   | @own i b D _ h2 t =>
     unfold vt at hk
     split at hk
     case h_2=>exact hk.elim
     rename_i hl
     rw [zl] at hl
     obtain ⟨hlt,hk2⟩:=zF hk
     cases h2 with
     | yld hlv hb =>
       have hb':=hb _ hl rfl
       obtain ⟨b',h3,h4⟩:=s.blk i _ hl
       rw [hb'] at h3;cases h3
       have htake:=run_takeDeferred (P:=P) h4
       have hbo : blkOf β H i = some b:=by simp only [blkOf,hl,hb'];rfl
       obtain ⟨s',X'⟩:=s.modify (β':=β) (w':=w.putObj b (.deferred none)) (x':=.raw (.deferred none)) hl (fun _ _=>rfl) (.inr ⟨_,rfl,rfl⟩) s.env
        (fun q _ hn=>World.putObj_heap_other (fun e=>hn (by rw [hbo,e]))) (fun b0 e=>.inl (by rw [hbo];rw [hb'] at e;exact e))
        (fun _=>⟨b,hb',World.putObj_heap_same (Array.getElem?_eq_some_iff.1 h4).1⟩)
       refine ⟨by simp,.inl ⟨b,_,rfl,htake,?_⟩⟩
       exact qr ok hen ds D h β _ _ (X.trans X') s' (F.ext X') (DfOk.ext ⟨hen2,t⟩ X') hk2
theorem zE.inl {f : FuncId} {fn : Func} {c : Code} {rs : List AV} {res : List ResultVar} {k : AV -> List Blk -> Prop} (ok : zr P T) (own : List Nat) (hf : P.funcs[f]? = some fn) (hb : fn.body = some c) (hn : (fn.name == "runtime.NumGoroutine") = false)
  (hN : fn.ntmps = N) (hr : fn.results = res.toArray) (hl : rs.length <= N) (x : XRun P T N none own c (XIn T res k) [] (argX rs) H) : zE P f rs H k:=by
 refine ⟨⟨fn,hf,hn,by rw [hb];rfl⟩,fun E h β w vs s hrs=>?_⟩
 refine (show CallsIn (FW none) 0 P f vs.toArray w (Ends P ⟨E.b,E.fr,h⟩ h β H k) from ?_).mono fun _ _=>Ends.unen
 refine callsIn_of_wp_marks hf hb trivial ?_ rfl
 have hsz : (vs.toArray ++ Array.replicate (fn.ntmps - vs.toArray.size) undef).size = N:=by simp [hrs.1];omega
 refine wpIn_mono (XRun.sound (own:=own) ok x ⟨E.b,E.fr,h⟩ h β _ w ⟨s.en h,fun t r e=>?_,hsz,⟨fun _ _ e=>e,.nil⟩⟩) ?_
 ·rw [zac] at e
  obtain ⟨v,h1,h2⟩:=hrs.2 t r e
  refine ⟨v,?_,h2⟩
  rw [Array.getElem?_append_left (by simpa using (List.getElem?_eq_some_iff.1 h1).1)];simpa using h1
 ·rintro e a' w' ⟨D',σ',H',h',β',q,X,s'⟩
  have hq : (e = .normal \/ e = .ret) /\ vt D' H' fun H'=>xRes T σ' H' fn.results.toList fun rs=>k (pack rs) H':=by
   rw [hr]
   unfold XIn at q;split at q
   ·exact ⟨.inl rfl,q⟩
   ·exact ⟨.inr rfl,q⟩
   ·exact q.elim
  obtain ⟨he,q⟩:=hq
  have hL : LeavesInM (FW none) 0 P fn a'.tmps (Ends P ⟨E.b,E.fr,h⟩ h β H k) a'.defers .returning w':=
   qr ok (fun _ e=>e) a'.defers D' h' β' H' w' X s'.sr s'.fits s'.df q
  rcases he with rfl | rfl <;> exact hL
theorem Comp.body' {f : FuncId} {fn : Func} {c : Code} {rs : List AV} {res : List ResultVar} {r0 : AV} (ok : zr P T) (own : List Nat) (hf : P.funcs[f]? = some fn) (hb : fn.body = some c) (hn : (fn.name == "runtime.NumGoroutine") = false)
  (hN : fn.ntmps = N) (hr : fn.results = res.toArray) (hl : rs.length <= N) (hlo : lowL 0 rs = true) (x : XRun P T N none own c (XFm P T res r0) [] (argX rs) []) : Comp P f rs r0:=by
 refine ⟨hlo,?_⟩
 obtain ⟨h1,h2⟩:=zE.inl ok own hf hb hn hN hr hl x
 refine ⟨h1,fun E h β w vs s hrs=>(h2 E h β w vs s hrs).mono ?_⟩
 rintro e w' ⟨r,H',h',β',v,rfl,hk,X,s',hrep⟩
 exact ⟨r0,[],hall h' β' H' w',β',v,rfl,⟨rfl,rfl⟩,⟨fun b o eb=>k8 s' (X.imm b o eb),Nat.le_refl _,by simp⟩,s'.all,hk.o E h' β' w' s' v hrep⟩
theorem XRun.monoX (ok : zr P T) {c : Code} {Q Q' : Post} {D : List Nat} (hq : ∀ e D σ H,Q e D σ H -> Q' e D σ H) (x : XRun P T N ρ own c Q D σ H) : AWp P N ρ c Q' D σ H:=(XRun.sound ok x).mono hq
theorem zE.inl0 {f : FuncId} {fn : Func} {c : Code} {rs : List AV} {res : List ResultVar} {k : AV -> List Blk -> Prop} (ok : zr P T) (own : List Nat) (hf : P.funcs[f]? = some fn) (hb : fn.body = some c) (hn : (fn.name == "runtime.NumGoroutine") = false)
  (hN : fn.ntmps = N) (hr : fn.results = res.toArray) (hl : rs.length <= N) (x : AWp P N none c (XIn T res k) [] (argX rs) H) : zE P f rs H k:=by
 refine ⟨⟨fn,hf,hn,by rw [hb];rfl⟩,fun E h β w vs s hrs=>?_⟩
 refine (show CallsIn (FW none) 0 P f vs.toArray w (Ends P ⟨E.b,E.fr,h⟩ h β H k) from ?_).mono fun _ _=>Ends.unen
 refine callsIn_of_wp_marks hf hb trivial ?_ rfl
 have hsz : (vs.toArray ++ Array.replicate (fn.ntmps - vs.toArray.size) undef).size = N:=by simp [hrs.1];omega
 refine wpIn_mono (x ⟨E.b,E.fr,h⟩ h β _ w ⟨s.en h,fun t r e=>?_,hsz,⟨fun _ _ e=>e,.nil⟩⟩) ?_
 ·rw [zac] at e
  obtain ⟨v,h1,h2⟩:=hrs.2 t r e
  refine ⟨v,?_,h2⟩
  rw [Array.getElem?_append_left (by simpa using (List.getElem?_eq_some_iff.1 h1).1)];simpa using h1
 ·rintro e a' w' ⟨D',σ',H',h',β',q,X,s'⟩
  have hq : (e = .normal \/ e = .ret) /\ vt D' H' fun H'=>xRes T σ' H' fn.results.toList fun rs=>k (pack rs) H':=by
   rw [hr]
   unfold XIn at q;split at q
   ·exact ⟨.inl rfl,q⟩
   ·exact ⟨.inr rfl,q⟩
   ·exact q.elim
  obtain ⟨he,q⟩:=hq
  have hL : LeavesInM (FW none) 0 P fn a'.tmps (Ends P ⟨E.b,E.fr,h⟩ h β H k) a'.defers .returning w':=
   qr ok (fun _ e=>e) a'.defers D' h' β' H' w' X s'.sr s'.fits s'.df q
  rcases he with rfl | rfl <;> exact hL
theorem Comp.body {f : FuncId} {fn : Func} {c : Code} {rs : List AV} {res : List ResultVar} {r0 : AV} (ok : zr P T) (own : List Nat) (hf : P.funcs[f]? = some fn) (hb : fn.body = some c) (hn : (fn.name == "runtime.NumGoroutine") = false)
  (hN : fn.ntmps = N) (hr : fn.results = res.toArray) (hl : rs.length <= N) (hlo : lowL 0 rs = true) (x : XRun P T N none own c (XFn P T res r0) [] (argX rs) []) : Comp P f rs r0:=by
 refine ⟨hlo,?_⟩
 obtain ⟨h1,h2⟩:=zE.inl0 (k:=fun r H=>XOut P H r r0) ok own hf hb hn hN hr hl (XRun.monoX ok (fun e D σ H q=>by
  unfold XFn at q
  split at q
  ·exact q
  ·exact q
  ·exact q.elim) x)
 refine ⟨h1,fun E h β w vs s hrs=>(h2 E h β w vs s hrs).mono ?_⟩
 rintro e w' ⟨r,H',h',β',v,rfl,hk,X,s',hrep⟩
 exact ⟨r0,[],hall h' β' H' w',β',v,rfl,⟨rfl,rfl⟩,⟨fun b o eb=>k8 s' (X.imm b o eb),Nat.le_refl _,by simp⟩,s'.all,hk.o E h' β' w' s' v hrep⟩
theorem zf.inl {f : FuncId} {fn : Func} {c : Code} {rs : List AV} {res : List ResultVar} {k : AV -> List Blk -> Prop} (ok : zr P T) (own : List Nat) (hf : P.funcs[f]? = some fn) (hb : fn.body = some c) (hn : (fn.name == "runtime.NumGoroutine") = false)
  (hN : fn.ntmps = N) (hr : fn.results = res.toArray) (hl : rs.length <= N) (x : XRun P T N none own c (XIn T res k) [] (argX rs) H) : zf P f rs H k:=
 ⟨.inl ok own hf hb hn hN hr hl x⟩
theorem Walk.nilgr {c : Code} {Q : Post} {D : List Nat} (t : Nat) (te : TypeId) (ht : σ t = some (.sl true [])) (x : Walk P N ρ c Q D (updX σ t (.gr H.length 0)) (H ++ [.grow te true []])) : Walk P N ρ c Q D σ H:=by
 constructor
 intro E h β a w s
 obtain ⟨s',X⟩:=s.sr.push (w':=w) s.sr.env (fun _ _=>rfl) (.slice none 0 0) (.grow te true []) (by intro b hb;simp [anchor] at hb) (fun _=>.inl ⟨rfl,rfl,by simp [upb]⟩)
 refine wpIn_mono (x.o E h _ a w ⟨s',fun u r e=>?_,s.size,s.df.ext X⟩) fun _ _ _=>Conc.ext X
 rw [yl] at e;unfold upd at e
 split at e
 ·rename_i hu;subst hu;cases e
  obtain ⟨v,h1,h2⟩:=s.fits u _ ht
  cases h2
  refine ⟨_,h1,.gr rfl (.push rfl) fun t' nl els e=>?_⟩
  rw [List.getElem?_append_right (Nat.le_refl _)] at e;simp at e;obtain ⟨_,_,rfl⟩:=e
  exact ⟨Nat.le_refl _,fun _=>by simp [upb]⟩
 ·obtain ⟨v,h1,h2⟩:=s.fits u r e
  exact ⟨v,h1,X.rep h2⟩
end
end GA
end
section
namespace GA
open Go Go.RowKit
section
variable {P : Program} {T : Tab} {N : Nat} {ρ : Option Nat} {own : List Nat} {E : Env} {h : Nat -> Option Obj} {β : Nat -> Value} {H : List Blk} {w : World} {σ σ' : St} {a : Act}
def jv (σ σ' : St) (l : List Operand) : Prop:=∀ t,Operand.tmp t ∈ l -> ∀ r,σ t = some r -> σ' t = some r
theorem jv.ev {l : List Operand} (k : jv σ σ' l) {x : Operand} (hx : x ∈ l) {r : AV} (e : ev σ x = some r) : ev σ' x = some r:=by
 cases x with
 | tmp t=>exact k t hx r e
 | _=>exact e
theorem jv.evL {l : List Operand} (k : jv σ σ' l) : ∀ {xs : List Operand} {rs : List AV},(∀ x ∈ xs,x ∈ l) -> evL σ xs = some rs -> evL σ' xs = some rs
 | [],_,_,e=>e
 | x :: xs,rs,hx,e=>by
   unfold GA.evL at e ⊢
   split at e <;> cases e
   rename_i h1 h2
   rw [k.ev (hx x (by simp)) h1,k.evL (fun y hy=>hx y (by simp [hy])) h2]
theorem jv.evP {l : List Operand} (k : jv σ σ' l) : ∀ {xs : List (Nat × Operand)} {rs : List (Nat × AV)},(∀ x ∈ xs.map (·.2),x ∈ l) -> evP σ xs = some rs -> evP σ' xs = some rs
 | [],_,_,e=>e
 | (i,x) :: xs,rs,hx,e=>by
   unfold GA.evP at e ⊢
   split at e <;> cases e
   rename_i h1 h2
   rw [k.ev (hx x (by simp)) h1,k.evP (fun y hy=>hx y (by simp at hy ⊢;exact .inr hy)) h2]
theorem jv.evO {l : List Operand} (k : jv σ σ' l) {x : Option Operand} {r : Option AV} (hx : ∀ y,x = some y -> y ∈ l) (e : evO σ x = some r) : evO σ' x = some r:=by
 cases x with
 | none=>exact e
 | some y =>
   simp only [GA.evO] at e ⊢
   cases h1 : GA.ev σ y with
   | none=>rw [h1] at e;cases e
   | some z=>rw [h1] at e;rw [k.ev (hx y rfl) h1];exact e
theorem jv.b {l : List Operand} (k : jv σ σ' l) {x : Operand} (hx : x ∈ l) {K : AV -> Prop} (e : bnd (GA.ev σ x) K) : bnd (GA.ev σ' x) K:=by
 obtain ⟨r,h1,h2⟩:=zb e;rw [k.ev hx h1];exact h2
theorem AOp_look {op : Op} {d : Option Nat} {K : AV -> List Blk -> Prop} (k : jv σ σ' op.operands.toList) (x : AOp P own d σ H K op) : AOp P own d σ' H K op:=by
 cases op with
 | move a=>exact k.b (by simp [Op.operands]) x
 | assign a=>exact k.b (by simp [Op.operands]) x
 | pick c a b =>
   refine zh (k.b (x:=c) (by simp [Op.operands]) x) fun r _ h=>?_
   split at h
   ·exact ⟨fun e=>k.b (by simp [Op.operands]) (h.1 e),fun e=>k.b (by simp [Op.operands]) (h.2 e)⟩
   ·exact h
 | alloc t=>exact x
 | box t a=>exact k.b (by simp [Op.operands]) x
 | build t ps=>obtain ⟨r,h1,h2⟩:=zb x;show bnd _ _;rw [k.evP (by simp [Op.operands]) h1];exact h2
 | buildSlice t n ps=>obtain ⟨r,h1,h2⟩:=zb x;show bnd _ _;rw [k.evP (by simp [Op.operands]) h1];exact h2
 | load t a=>exact k.b (by simp [Op.operands]) x
 | store t a v=>exact zh (k.b (x:=a) (by simp [Op.operands]) x) fun r _ h=>k.b (by simp [Op.operands]) h
 | nilCheck a=>exact k.b (by simp [Op.operands]) x
 | binOp op t a b y=>exact zh (k.b (x:=a) (by simp [Op.operands]) x) fun r _ h=>k.b (by simp [Op.operands]) h
 | unOp op t a=>exact k.b (by simp [Op.operands]) x
 | convert s d a=>exact k.b (by simp [Op.operands]) x
 | makeFunc fn first caps =>
   cases fn with
   | func f =>
     rcases x with ⟨h0,h⟩ | ⟨h0,h⟩
     ·obtain ⟨r,h1,h2⟩:=zb h
      refine .inl ⟨h0,?_⟩
      rw [k.evL (by simp [Op.operands];exact fun _ h=>.inr h) h1];exact h2
     ·obtain ⟨r,h1,h2⟩:=zb h
      refine .inr ⟨h0,?_⟩
      rw [k.evL (by simp [Op.operands];exact fun _ h=>.inl h) h1];exact h2
   | _=>exact x
 | makeSlice t a b=>exact zh (k.b (x:=a) (by simp [Op.operands]) x) fun r _ h=>k.b (by simp [Op.operands]) h
 | slice t a lo hi mx =>
   refine zh (k.b (x:=a) (by simp [Op.operands]) x) fun r _ h=>?_
   obtain ⟨l1,g1,h⟩:=zb h
   obtain ⟨l2,g2,h⟩:=zb h
   obtain ⟨l3,g3,h⟩:=zb h
   rw [k.evO (by rintro y rfl;simp [Op.operands]) g1,zk,k.evO (by rintro y rfl;simp [Op.operands]) g2,zk,k.evO (by rintro y rfl;simp [Op.operands]) g3,zk]
   exact h
 | fieldAddr t a f=>exact k.b (by simp [Op.operands]) x
 | field t a f=>exact k.b (by simp [Op.operands]) x
 | indexAddr t a b=>exact zh (k.b (x:=a) (by simp [Op.operands]) x) fun r _ h=>k.b (by simp [Op.operands]) h
 | index t a b =>
   rcases x with x | ⟨c,e,x⟩
   ·exact .inl (zh (k.b (x:=a) (by simp [Op.operands]) x) fun r _ h=>k.b (by simp [Op.operands]) h)
   ·exact .inr ⟨c,e,k.b (by simp [Op.operands]) x⟩
 | extract a i=>exact k.b (by simp [Op.operands]) x
 | makeMap t r=>exact x
 | lookup t a b ok=>exact zh (k.b (x:=a) (by simp [Op.operands]) x) fun r _ h=>k.b (by simp [Op.operands]) h
 | mapUpdate t m a b=>exact zh (k.b (x:=m) (by simp [Op.operands]) x) fun r _ h=>zh (k.b (x:=a) (by simp [Op.operands]) h) fun r _ h=>k.b (by simp [Op.operands]) h
 | insert t m a b=>exact zh (k.b (x:=m) (by simp [Op.operands]) x) fun r _ h=>zh (k.b (x:=a) (by simp [Op.operands]) h) fun r _ h=>k.b (by simp [Op.operands]) h
 | call c =>
   obtain ⟨callee,args,argTypes⟩:=c
   change kq P σ H _ K at x
   change kq P σ' H _ K
   unfold kq at x ⊢
   cases callee with
   | value f =>
     refine zh (k.b (x:=f) (by simp [Op.operands,Call.operands]) x) fun fv _ h=>?_
     obtain ⟨rs,h1,h2⟩:=zb h
     rw [k.evL (by simp [Op.operands,Call.operands];exact fun _ h=>.inr h) h1];exact h2
   | builtin b =>
     obtain ⟨rs,h1,h2⟩:=zb x
     simp only
     rw [k.evL (by simp [Op.operands,Call.operands]) h1];exact h2
   | invoke r m=>exact x
 | _=>exact x
end
end GA
end
section
namespace GA
open Go Go.RowKit
def dep (o : Oper) (j : Nat) : Bool:=o.after.toList.any fun e=>Region.binds .any e && Nat.beq e.on j
def zA (eff : List Nat) (listed : Array Bool) : List Bool:=eff.map fun j=>listed.getD j false
def setF (eff : List Nat) (i : Nat) (fl : List Bool) : List Bool:=List.zipWith (fun j b=>b || Nat.beq j i) eff fl
def opAt (ops : List Oper) (j : Nat) (f : Oper -> Bool) : Bool:=match lget ops j with | some o=>f o | none=>true
def compat (ops : List Oper) (eff : List Nat) (i : Nat) (fl : List Bool) : Bool:=
 (eff.zip fl).all fun (j,b) =>
  (opAt ops i fun o=>!dep o j || b) && (!Nat.beq j i || !b) && (opAt ops j fun o=>!dep o i || !b) &&
  (!b ||(eff.zip fl).all fun (j',b')=>opAt ops j fun o=>!dep o j' || b')
structure zm (r : AV) (H : List Blk) (r0 : AV) (H0 : List Blk) : Prop where
 r : r = r0
 h : H = H0
section
variable (P : Program) (T : Tab) (N : Nat) (own : List Nat) (ops : List Oper) (eff : List Nat) (HS : List Bool -> List Blk)
def Chk (i : Nat) (o : Oper) (σ : St) (r : AV) (fl : List Bool) : Prop:=
 xGate ops σ o.guard (fun σ=>XOp P T own o.dst σ (HS fl) (fun r' H'=>zm r' H' r (HS (setF eff i fl))) o.op) (fun _=>zm (.tup []) (HS fl) r (HS (setF eff i fl)))
def jC : Nat -> List Oper -> List AV -> St -> Prop
 | _,[],[],_=>True
 | i,o :: l,r :: R,σ=>(∀ fl,fl.length = eff.length -> compat ops eff i fl = true -> Chk P T own ops eff HS i o σ r fl) /\ jC (i + 1) l R (putX N σ o.dst r)
 | _,_,_,_=>False
end
def qR (N : Nat) : List Oper -> List AV -> St -> St
 | o :: l,r :: R,σ=>qR N l R (putX N σ o.dst r)
 | _,_,σ=>σ
section
variable {P : Program} {T : Tab} {N : Nat} {ρ : Option Nat} {own : List Nat} {E : Env} {h : Nat -> Option Obj} {β : Nat -> Value} {H : List Blk} {w : World} {σ σ' : St} {a : Act} {ops : List Oper} {eff : List Nat} {HS : List Bool -> List Blk}
theorem jC.get : ∀ {l : List Oper} {R : List AV} {i : Nat} {σ : St},jC P T N own ops eff HS i l R σ -> l.length = R.length /\ ∀ (j : Nat) o,l[j]? = some o -> ∃ r,R[j]? = some r /\
   ∀ fl,fl.length = eff.length -> compat ops eff (i + j) fl = true -> Chk P T own ops eff HS (i + j) o (qR N (l.take j) (R.take j) σ) r fl
 | [],[],_,_,_=>⟨rfl,by simp⟩
 | o :: l,r :: R,i,σ,h=>by
   obtain ⟨h1,h2⟩:=h
   obtain ⟨h3,h4⟩:=jC.get h2
   refine ⟨by simp [h3],fun j o' e=>?_⟩
   cases j with
   | zero=>simp at e;subst e;exact ⟨r,rfl,h1⟩
   | succ j =>
     obtain ⟨r',e1,e2⟩:=h4 j o' (by simpa using e)
     refine ⟨r',by simpa using e1,fun fl hf hc=>?_⟩
     have:=e2 fl hf (by rwa [show i + 1 + j = i + (j + 1) by omega])
     rw [show i + 1 + j = i + (j + 1) by omega] at this
     exact this
 | [],_ :: _,_,_,h=>h.elim
 | _ :: _,[],_,_,h=>h.elim
theorem putX_get {N : Nat} {σ : St} {d : Option Nat} {r x : AV} {t : Nat} (e : putX N σ d r t = some x) : (d = some t /\ t < N /\ x = r) \/ ((d ≠ some t \/ ¬ t < N) /\ σ t = some x):=by
 rw [zax] at e
 cases d with
 | none=>exact .inr ⟨.inl (by simp),e⟩
 | some d =>
   simp only [putO] at e
   split at e
   ·rename_i hd;unfold upd at e;split at e
    ·rename_i ht;subst ht;cases e;exact .inl ⟨rfl,hd,rfl⟩
    ·rename_i ht;exact .inr ⟨.inl (by intro hh;cases hh;exact ht rfl),e⟩
   ·rename_i hd
    by_cases ht : d = t
    ·subst ht;exact .inr ⟨.inr hd,e⟩
    ·exact .inr ⟨.inl (by intro hh;cases hh;exact ht rfl),e⟩
theorem vp {N : Nat} : ∀ {l : List Oper} {R : List AV} {σ : St} {t : Nat} {x : AV},l.length = R.length -> qR N l R σ t = some x ->
  (∃ (j : Nat) (o : Oper),l[j]? = some o /\ o.dst = some t /\ t < N /\ R[j]? = some x /\ ∀ (k : Nat) o',l[k]? = some o' -> j < k -> o'.dst ≠ some t) \/
  ((∀ (k : Nat) o',l[k]? = some o' -> o'.dst ≠ some t \/ ¬ t < N) /\ σ t = some x)
 | [],R,σ,t,x,hl,e=>by
   right;refine ⟨by simp,?_⟩
   cases R <;> exact e
 | o :: l,[],_,_,_,hl,_=>by simp at hl
 | o :: l,r :: R,σ,t,x,hl,e=>by
   rcases vp (l:=l) (R:=R) (by simpa using hl) e with ⟨j,o',h1,h2,h3,h4,h5⟩ | ⟨h1,h2⟩
   ·left
    refine ⟨j + 1,o',by simpa using h1,h2,h3,by simpa using h4,fun k o'' hk hj=>?_⟩
    cases k with
    | zero=>omega
    | succ k=>exact h5 k o'' (by simpa using hk) (by omega)
   ·rcases putX_get h2 with ⟨g1,g2,g3⟩ | ⟨g1,g2⟩
    ·left
     refine ⟨0,o,rfl,g1,g2,by simp [g3],fun k o' hk hj=>?_⟩
     cases k with
     | zero=>omega
     | succ k =>
       rcases h1 k o' (by simpa using hk) with h | h
       ·exact h
       ·exact absurd g2 h
    ·right
     refine ⟨fun k o' hk=>?_,g2⟩
     cases k with
     | zero=>simp at hk;subst hk;exact g1
     | succ k=>exact h1 k o' (by simpa using hk)
theorem zaR {ops : Array Oper} : ∀ (fuel k : Nat) (listed : Array Bool),listed.size = ops.size -> (∀ j,listed.getD j true = false ↔ k <= j /\ j < ops.size) -> k + fuel = ops.size -> Region.lexFrom .any ops fuel k listed = true ->
  ∀ i o,k <= i -> ops[i]? = some o -> (∀ e ∈ o.after,Region.binds .any e = true -> e.on < i) /\ ∀ (j : Nat) oj,i < j -> ops[j]? = some oj -> (∀ e ∈ oj.after,Region.binds .any e = true -> e.on ≠ i) -> o.apart ops oj = true
 | 0,k,listed,_,_,hk,_,i,o,hi,ho=>by have:=(Array.getElem?_eq_some_iff.1 ho).1;omega
 | fuel + 1,k,listed,hs,hl,hk,hB,i,o,hi,ho=>by
   simp only [Region.lexFrom,Bool.and_eq_true] at hB
   obtain ⟨⟨hr,hf⟩,hB'⟩:=hB
   rcases Nat.lt_or_eq_of_le hi with hlt | rfl
   ·refine zaR fuel (k + 1) (listed.setIfInBounds k true) (by simpa using hs) (fun j=>?_) (by omega) hB' i o (by omega) ho
    by_cases hjk : k = j
    ·subst hjk
     have : k < listed.size:=by omega
     simp [this];omega
    ·rw [getD_set_ne true hjk,hl j];omega
   ·have hr' : k ∈ Region.ready .any ops listed:=by simpa using hr
    obtain ⟨_,o',ho',hall⟩:=mem_ready.1 hr'
    rw [ho] at ho';cases ho'
    refine ⟨fun e he hb=>?_,fun j oj hj hoj hno=>Region.free_spec ho hf j oj hoj (by omega) ((hl j).2 ⟨by omega,(Array.getElem?_eq_some_iff.1 hoj).1⟩) hno⟩
    have h1:=hall e he hb
    rcases Nat.lt_or_ge e.on k with h | h
    ·exact h
    ·exfalso
     rcases Nat.lt_or_ge e.on ops.size with h' | h'
     ·have h2:=(hl e.on).2 ⟨h,h'⟩
      simp at h1 h2
      rcases Nat.lt_or_ge e.on listed.size with h3 | h3
      ·simp [h3] at h1 h2;rw [h2] at h1;cases h1
      ·simp [Array.getElem?_eq_none h3] at h1
     ·have h3 : listed.size <= e.on:=by omega
      simp [Array.getElem?_eq_none h3] at h1
end
end GA
end
section
namespace GA
open Go Go.RowKit
section
variable {P : Program} {T : Tab} {N : Nat} {ρ : Option Nat} {own : List Nat} {E : Env} {h : Nat -> Option Obj} {β : Nat -> Value} {H : List Blk} {w : World} {σ σ' : St} {a : Act} {ops : List Oper} {eff : List Nat} {HS : List Bool -> List Blk}
def isL (listed : Array Bool) (j : Nat) : Prop:=listed.getD j false = true
def Closed (ops : List Oper) (listed : Array Bool) : Prop:=∀ (j : Nat) o,ops[j]? = some o -> isL listed j -> ∀ e ∈ o.after,Region.binds .any e = true -> isL listed e.on
structure DInv (P : Program) (E : Env) (N : Nat) (ops : List Oper) (eff : List Nat) (HS : List Bool -> List Blk) (R : List AV) (σ : St) (a0 : Act) (h0 : Nat -> Option Obj) (β0 : Nat -> Value) (H0 : List Blk) (listed : Array Bool) (a : Act) (w : World) : Prop where
 size : listed.size = ops.length
 closed : Closed ops listed
 st : ∃ h β,Ext h0 β0 H0 h β (HS (zA eff listed)) /\ SR P E h β (HS (zA eff listed)) w /\
  (∀ t r,σ t = some r -> (∀ (j : Nat) o,ops[j]? = some o -> isL listed j -> o.dst ≠ some t \/ ¬ t < N) -> ∃ v,a.tmps[t]? = some v /\ Rep P h β (HS (zA eff listed)) r v) /\
  (∀ (j : Nat) o d r,ops[j]? = some o -> isL listed j -> o.dst = some d -> d < N -> R[j]? = some r -> (∀ (k : Nat) ok,ops[k]? = some ok -> isL listed k -> j < k -> ok.dst ≠ some d) -> ∃ v,a.tmps[d]? = some v /\ Rep P h β (HS (zA eff listed)) r v)
 keeps : Keeps a0 a
theorem f7 {o : Oper} {j : Nat} : dep o j = true ↔ ∃ e ∈ o.after,Region.binds .any e = true /\ e.on = j:=by
 unfold dep;rw [List.any_eq_true]
 constructor
 ·rintro ⟨e,h1,h2⟩
  simp only [Bool.and_eq_true] at h2
  exact ⟨e,by simpa using h1,h2.1,Nat.eq_of_beq_eq_true h2.2⟩
 ·rintro ⟨e,h1,h2,h3⟩
  exact ⟨e,by simpa using h1,by subst h3;simp [h2]⟩
theorem vd {listed : Array Bool} {p : Nat × Bool} : ∀ {eff : List Nat},p ∈ eff.zip (zA eff listed) -> p.2 = listed.getD p.1 false
 | [],h=>by simp at h
 | j :: eff,h=>by
   simp only [zA,List.map_cons,List.zip_cons_cons] at h
   rcases List.mem_cons.1 h with h | h
   ·subst h;rfl
   ·exact vd h
theorem vi {j : Nat} {f : Oper -> Bool} (h : ∀ o,ops[j]? = some o -> f o = true) : opAt ops j f = true:=by
 unfold opAt;rw [zl];split
 ·rename_i e;exact h _ e
 ·rfl
theorem zai {listed : Array Bool} {i : Nat} (hc : Closed ops listed) (hi : ¬ isL listed i) (hr : ∀ o,ops[i]? = some o -> ∀ e ∈ o.after,Region.binds .any e = true -> isL listed e.on) : compat ops eff i (zA eff listed) = true:=by
 unfold compat
 rw [List.all_eq_true]
 rintro ⟨j,b⟩ hp
 have hb:=vd hp
 simp only at hb;subst hb
 simp only [Bool.and_eq_true]
 refine ⟨⟨⟨vi fun o ho=>?_,?_⟩,vi fun o ho=>?_⟩,?_⟩
 ·cases hd : dep o j with
  | false=>rfl
  | true=>obtain ⟨e,h1,h2,h3⟩:=f7.1 hd;have:=hr o ho e h1 h2;rw [h3] at this;simpa [isL] using this
 ·cases hd : Nat.beq j i with
  | false=>rfl
  | true=>have:=Nat.eq_of_beq_eq_true hd;subst this;simpa [isL] using hi
 ·cases hd : dep o i with
  | false=>rfl
  | true =>
    obtain ⟨e,h1,h2,h3⟩:=f7.1 hd
    cases hl : listed.getD j false with
    | false=>rfl
    | true=>exact absurd (h3 ▸ hc j o ho hl e h1 h2) hi
 ·cases hl : listed.getD j false with
  | false=>rfl
  | true =>
    simp only [Bool.not_true,Bool.false_or]
    rw [List.all_eq_true]
    rintro ⟨j',b'⟩ hp'
    have hb':=vd hp'
    simp only at hb';subst hb'
    refine vi fun o ho=>?_
    cases hd : dep o j' with
    | false=>rfl
    | true=>obtain ⟨e,h1,h2,h3⟩:=f7.1 hd;have:=hc j o ho hl e h1 h2;rw [h3] at this;simpa [isL] using this
theorem jT {listed : Array Bool} {i j : Nat} (hi : i < listed.size) : isL (listed.setIfInBounds i true) j ↔ j = i \/ isL listed j:=by
 unfold isL
 by_cases h : i = j
 ·subst h;simp [hi]
 ·rw [getD_set_ne false h];simp [Ne.symm h]
theorem jb {listed : Array Bool} {i : Nat} (hi : i < listed.size) : ∀ (eff : List Nat),zA eff (listed.setIfInBounds i true) = setF eff i (zA eff listed)
 | []=>rfl
 | j :: eff=>by
   simp only [zA,setF,List.map_cons,List.zipWith_cons_cons]
   congr 1
   ·by_cases h : i = j
    ·subst h;simp [hi]
    ·rw [getD_set_ne false h]
     cases hb : Nat.beq j i with
     | true=>exact absurd (Nat.eq_of_beq_eq_true hb).symm h
     | false=>simp
   ·exact jb hi eff
theorem DInv.step {R : List AV} {a0 : Act} {h0 : Nat -> Option Obj} {β0 : Nat -> Value} {H0 : List Blk} {Q : Exit -> Act -> World -> Prop} (ok : zr P T) (hN : a0.tmps.size = N)
  (hlex : ∀ (i : Nat) o,ops[i]? = some o -> ∀ (j : Nat) oj,i < j -> ops[j]? = some oj -> (∀ e ∈ oj.after,Region.binds .any e = true -> e.on ≠ i) -> o.apart ops.toArray oj = true)
  (hchk : jC P T N own ops eff HS 0 ops R σ) {listed : Array Bool} {a : Act} {w : World} (I : DInv P E N ops eff HS R σ a0 h0 β0 H0 listed a w) {i : Nat} (hi : i ∈ Region.ready .any ops.toArray listed) :
  wpOpIn (FW ρ) 0 P ops.toArray Q i (DInv P E N ops eff HS R σ a0 h0 β0 H0 (listed.setIfInBounds i true)) a w:=by
 obtain ⟨hnot,o,ho,hall⟩:=mem_ready.1 hi
 have ho' : ops[i]? = some o:=by simpa using ho
 have hilt : i < ops.length:=(List.getElem?_eq_some_iff.1 ho').1
 have hils : i < listed.size:=by rw [I.size];exact hilt
 have hni : ¬ isL listed i:=by unfold isL;simp [hils] at hnot ⊢;exact hnot
 obtain ⟨hRl,hget⟩:=hchk.get
 obtain ⟨r,hr,hc⟩:=hget i o ho'
 rw [Nat.zero_add] at hc
 have hC:=hc (zA eff listed) (by simp [zA]) (zai I.closed hni fun o' h e he hb=>by rw [ho'] at h;cases h;exact hall e he hb)
 obtain ⟨h,β,X,s,K1,K2⟩:=I.st
 -- edges
 have edge : ∀ (j : Nat) oj,ops[j]? = some oj -> i < j -> isL listed j -> o.apart ops.toArray oj = true:=fun j oj hj hij hl =>
  hlex i o ho' j oj hij hj fun e he hb heq=>hni (heq ▸ I.closed j oj hj hl e he hb)
 have edge' : ∀ (j : Nat) oj,ops[j]? = some oj -> j < i -> ¬ isL listed j -> oj.apart ops.toArray o = true:=fun j oj hj hij hl =>
  hlex j oj hj i o hij ho' fun e he hb heq=>hl (heq ▸ hall e he hb)
 -- what is looked at
 let σ₁:=qR N (ops.take i) (R.take i) σ
 let σ₂ : St:=fun t=>if t ∈ o.looksAt ops.toArray then σ₁ t else none
 have hF : Fits P h β (HS (zA eff listed)) σ₂ a:=by
  intro t x ex
  simp only [σ₂] at ex
  split at ex
  ·rename_i hlook
   rcases vp (by simp [hRl]) ex with ⟨j,oj,h1,h2,h3,h4,h5⟩ | ⟨h1,h2⟩
   ·have hji : j < i:=by have:=(List.getElem?_eq_some_iff.1 h1).1;simp at this;omega
    have h1' : ops[j]? = some oj:=by rw [List.getElem?_take,if_pos hji] at h1;exact h1
    have h4' : R[j]? = some x:=by rw [List.getElem?_take,if_pos hji] at h4;exact h4
    have hjl : isL listed j:=by
     by_cases hl : isL listed j
     ·exact hl
     ·exact absurd hlook ((Oper.apart_spec (edge' j oj h1' hji hl)).1 t h2)
    refine K2 j oj t x h1' hjl h2 h3 h4' fun k ok hk hkl hjk=>?_
    rcases Nat.lt_trichotomy k i with hki | rfl | hki
    ·exact h5 k ok (by rw [List.getElem?_take,if_pos hki];exact hk) hjk
    ·exact absurd hkl hni
    ·intro hd;exact (Oper.apart_spec (edge k ok hk hki hkl)).2.2 t hd hlook
   ·refine K1 t x h2 fun j oj hj hjl=>?_
    rcases Nat.lt_trichotomy j i with hji | rfl | hji
    ·exact h1 j oj (by rw [List.getElem?_take,if_pos hji];exact hj)
    ·exact absurd hjl hni
    ·left;intro hd;exact (Oper.apart_spec (edge j oj hj hji hjl)).2.2 t hd hlook
  ·cases ex
 have hk2 : jv σ₁ σ₂ o.op.operands.toList:=by
  intro t ht x ex
  have : t ∈ o.looksAt ops.toArray:=by
   unfold Oper.looksAt;rw [List.mem_append];left;rw [List.mem_filterMap];exact ⟨.tmp t,ht,rfl⟩
  simp only [σ₂];rw [if_pos this];exact ex
 have hg1:=gw hC
 have hg2 : gate ops σ₂ o.guard (XOp P T own o.dst σ₁ (HS (zA eff listed)) (fun r' H'=>zm r' H' r (HS (setF eff i (zA eff listed)))) o.op) (zm (.tup []) (HS (zA eff listed)) r (HS (setF eff i (zA eff listed)))):=by
  unfold gate at hg1 ⊢
  cases hgd : o.guard with
  | none=>rw [hgd] at hg1;exact hg1
  | some p =>
    obtain ⟨j,want⟩:=p
    rw [hgd] at hg1
    obtain ⟨d,e1,e2⟩:=zb hg1
    obtain ⟨x,e3,e4⟩:=zb e2
    have : d ∈ o.looksAt ops.toArray:=by
     unfold Oper.looksAt;rw [List.mem_append];right;rw [hgd];simp only [List.getElem?_toArray,e1];simp
    have e5 : σ₂ d = some x:=by simp only [σ₂];rw [if_pos this];exact e3
    simp only [e1,zk,e5];exact e4
 -- the next state
 have next : ∀ (v : Value) h' β' w',Ext h β (HS (zA eff listed)) h' β' (HS (setF eff i (zA eff listed))) -> SR P E h' β' (HS (setF eff i (zA eff listed))) w' -> Rep P h' β' (HS (setF eff i (zA eff listed))) r v ->
   DInv P E N ops eff HS R σ a0 h0 β0 H0 (listed.setIfInBounds i true) (a.put o.dst v) w':=by
  intro v h' β' w' X' s' hrep
  have hsz : a.tmps.size = N:=I.keeps.size.trans hN
  refine ⟨by simpa using I.size,fun j oj hj hl e he hb=>?_,⟨h',β',?_,?_,?_,?_⟩,⟨(yF _ _ _).trans I.keeps.size,(kr _ _ _).trans I.keeps.defers⟩⟩
  ·rw [jT hils] at hl ⊢
   rcases hl with rfl | hl
   ·rw [ho'] at hj;cases hj;exact .inr (hall e he hb)
   ·exact .inr (I.closed j oj hj hl e he hb)
  ·rw [jb hils];exact X.trans X'
  ·rw [jb hils];exact s'
  ·rw [jb hils]
   intro t x ex hno
   obtain ⟨u,g1,g2⟩:=K1 t x ex fun j oj hj hl=>hno j oj hj ((jT hils).2 (.inr hl))
   refine ⟨u,?_,X'.rep g2⟩
   have hd:=hno i o ho' ((jT hils).2 (.inl rfl))
   cases hdst : o.dst with
   | none=>exact g1
   | some d =>
     simp only [Act.put]
     by_cases hdt : d = t
     ·subst hdt
      rcases hd with hd | hd
      ·exact absurd hdst hd
      ·rw [Array.setIfInBounds_eq_of_size_le (by omega)];exact g1
     ·rw [Array.getElem?_setIfInBounds_ne hdt];exact g1
  ·rw [jb hils]
   intro j oj d x hj hl hd hdN hx hlast
   rw [jT hils] at hl
   by_cases hji : j = i
   ·subst hji
    rw [ho'] at hj;cases hj
    rw [hr] at hx;cases hx
    exact ⟨v,by rw [hd];simp [Act.put,hsz,hdN],hrep⟩
   ·have hl : isL listed j:=hl.resolve_left hji
    obtain ⟨u,g1,g2⟩:=K2 j oj d x hj hl hd hdN hx fun k ok hk hkl hjk=>hlast k ok hk ((jT hils).2 (.inr hkl)) hjk
    refine ⟨u,?_,X'.rep g2⟩
    have hne : o.dst ≠ some d:=by
     intro hod
     rcases Nat.lt_trichotomy j i with hlt | heq | hlt
     ·exact hlast i o ho' ((jT hils).2 (.inl rfl)) hlt hod
     ·exact hji heq
     ·exact (Oper.apart_spec (edge j oj hj hlt hl)).2.1 d hod hd
    cases hdst : o.dst with
    | none=>exact g1
    | some d' =>
      simp only [Act.put]
      rw [Array.getElem?_setIfInBounds_ne (fun e=>hne (by rw [hdst,e]))];exact g1
 unfold wpOpIn
 simp only [ho]
 rcases jK hF hg2 with ⟨hw,hA⟩ | ⟨hw,hB⟩
 ·rw [if_pos hw]
  refine AOp.sound (AOp_look hk2 (hA.sound ok)) s hF ?_
  intro r' H' h' β' w' v hk' X' s' hrep
  obtain ⟨e1,e2⟩:=hk'
  subst e1;subst e2
  exact next v h' β' w' X' s' hrep
 ·rw [if_neg (by rw [hw];simp)]
  refine ⟨fun _ _=>trivial,?_⟩
  obtain ⟨e1,e2⟩:=hB
  refine next undef h β w ?_ ?_ ?_
  ·rw [<- e2];exact Ext.refl _ _ _
  ·rw [<- e2];exact s
  ·rw [<- e1];exact vw
theorem unl_zero {listed : Array Bool} (h : (List.range listed.size).countP (fun j=>!listed.getD j false) = 0) {j : Nat} (hj : j < listed.size) : isL listed j:=by
 rw [List.countP_eq_zero] at h
 have:=h j (by simpa using hj)
 simpa [isL] using this
theorem unl_set {listed : Array Bool} {i : Nat} (hi : i < listed.size) (hn : ¬ isL listed i) :
  (List.range (listed.setIfInBounds i true).size).countP (fun j=>!(listed.setIfInBounds i true).getD j false) + 1 = (List.range listed.size).countP (fun j=>!listed.getD j false):=by
 have e : ∀ n,n <= listed.size -> (List.range n).countP (fun j=>!(listed.setIfInBounds i true).getD j false) + (if i < n then 1 else 0) = (List.range n).countP (fun j=>!listed.getD j false):=by
  intro n
  induction n with
  | zero=>intro _;simp
  | succ n ih =>
    intro hn'
    have ih:=ih (by omega)
    rw [List.range_succ,List.countP_append,List.countP_append,<- ih]
    by_cases h : i = n
    ·subst h
     have h1 : listed.getD i false = false:=by unfold isL at hn;simpa using hn
     have h2 : (listed.setIfInBounds i true).getD i false = true:=by simp [hi]
     simp only [List.countP_cons,List.countP_nil,h1,h2]
     simp
    ·rw [show List.countP (fun j=>!(listed.setIfInBounds i true).getD j false) [n] = List.countP (fun j=>!listed.getD j false) [n] by simp only [List.countP_cons,List.countP_nil,getD_set_ne false h]]
     split <;> split <;> omega
 have:=e listed.size (Nat.le_refl _)
 rw [if_pos hi] at this
 simpa using this
theorem DInv.any {R : List AV} {a0 : Act} {h0 : Nat -> Option Obj} {β0 : Nat -> Value} {H0 : List Blk} {Q : Exit -> Act -> World -> Prop} (ok : zr P T) (hN : a0.tmps.size = N) (hs : Region.lexB .any ops.toArray = true)
  (hchk : jC P T N own ops eff HS 0 ops R σ) (hQ : ∀ listed a w,DInv P E N ops eff HS R σ a0 h0 β0 H0 listed a w -> (∀ j,j < ops.length -> isL listed j) -> Q .normal a w) :
  ∀ (fuel : Nat) (listed : Array Bool) (a : Act) (w : World),(List.range listed.size).countP (fun j=>!listed.getD j false) = fuel -> DInv P E N ops eff HS R σ a0 h0 β0 H0 listed a w -> wpAnyIn (FW ρ) 0 P .any ops.toArray Q fuel listed a w:=by
 simp only [Region.lexB,Bool.and_eq_true] at hs
 have hspec:=zaR (ops:=ops.toArray) ops.toArray.size 0 (Array.replicate ops.toArray.size false) (by simp) (fun j=>by
  simp only [Array.getD_eq_getD_getElem?,Array.getElem?_replicate]
  split <;> simp_all) (by simp) hs.2
 have hlex : ∀ (i : Nat) o,ops[i]? = some o -> ∀ (j : Nat) oj,i < j -> ops[j]? = some oj -> (∀ e ∈ oj.after,Region.binds .any e = true -> e.on ≠ i) -> o.apart ops.toArray oj = true:=
  fun i o ho j oj hij hj hno=>(hspec i o (Nat.zero_le _) (by simpa using ho)).2 j oj hij (by simpa using hj) hno
 -- who is ready when nobody is
 have hready : ∀ listed a w,DInv P E N ops eff HS R σ a0 h0 β0 H0 listed a w -> Region.ready .any ops.toArray listed = [] -> ∀ j,j < ops.length -> isL listed j:=by
  intro listed a w I hr j
  induction j using Nat.strongRecOn with
  | _ j ih =>
    intro hj
    by_cases hl : isL listed j
    ·exact hl
    ·exfalso
     have : j ∈ Region.ready .any ops.toArray listed:=by
      rw [mem_ready]
      refine ⟨?_,ops[j],by simp [hj],fun e he hb=>?_⟩
      ·have hjs : j < listed.size:=by rw [I.size];exact hj
       unfold isL at hl;simp [hjs] at hl ⊢;exact hl
      ·have h1:=(hspec j ops[j] (Nat.zero_le _) (by simp [hj])).1 e he hb
       exact ih e.on h1 (by omega)
     rw [hr] at this;cases this
 intro fuel
 induction fuel with
 | zero =>
   intro listed a w hc I
   have hall : ∀ j,j < ops.length -> isL listed j:=fun j hj=>unl_zero hc (by rw [I.size];exact hj)
   refine ⟨?_,hQ listed a w I hall⟩
   cases hr : Region.ready .any ops.toArray listed with
   | nil=>rfl
   | cons j l =>
     have : j ∈ Region.ready .any ops.toArray listed:=by rw [hr];simp
     obtain ⟨h1,o,h2,_⟩:=mem_ready.1 this
     have hj : j < ops.length:=by have:=(Array.getElem?_eq_some_iff.1 h2).1;simpa using this
     have hjs : j < listed.size:=by rw [I.size];exact hj
     have:=hall j hj
     unfold isL at this;simp [hjs] at h1 this;rw [h1] at this;cases this
 | succ fuel ih =>
   intro listed a w hc I
   refine ⟨fun hr=>hQ listed a w I (hready listed a w I hr),fun i hi=>?_⟩
   obtain ⟨h1,o,h2,_⟩:=mem_ready.1 hi
   have hj : i < ops.length:=by have:=(Array.getElem?_eq_some_iff.1 h2).1;simpa using this
   have hjs : i < listed.size:=by rw [I.size];exact hj
   have hn : ¬ isL listed i:=by unfold isL;simp [hjs] at h1 ⊢;exact h1
   refine wpOpIn_mono (fun a' w' I'=>ih _ a' w' ?_ I') (DInv.step ok hN hlex hchk I hi)
   have:=unl_set hjs hn
   omega
theorem Walk.draw {id : Nat} {Q : Post} {D : List Nat} (ok : zr P T) (hm : P.follows .mixedOrders = true) (own : List Nat) (eff : List Nat) (HS : List Bool -> List Blk) (R : List AV) (hs : Region.lexB .any ops.toArray = true)
  (hH : HS (eff.map fun _=>false) = H) (hchk : jC P T N own ops eff HS 0 ops R σ) (hk : Q .normal D (qR N ops R σ) (HS (eff.map fun j=>Nat.blt j ops.length))) : Walk P N ρ (.region id ops.toArray true) Q D σ H:=by
 constructor
 intro E h β a w s
 have hfl0 : zA eff (Array.replicate ops.toArray.size false) = eff.map fun _=>false:=by
  unfold zA;apply List.map_congr_left;intro j _
  simp only [Array.getD_eq_getD_getElem?,Array.getElem?_replicate];split <;> rfl
 have hnl : ∀ j,¬ isL (Array.replicate ops.toArray.size false) j:=by
  intro j;unfold isL
  simp only [Array.getD_eq_getD_getElem?,Array.getElem?_replicate];split <;> simp
 have I0 : DInv P E N ops eff HS R σ a h β H (Array.replicate ops.toArray.size false) a { w with drawn:=w.drawn + 1 }:=by
  refine ⟨by simp,fun j o _ hl=>absurd hl (hnl j),⟨h,β,?_,?_,fun t r e _=>?_,fun j o d r _ hl=>absurd hl (hnl j)⟩,⟨rfl,rfl⟩⟩
  ·rw [hfl0,hH];exact Ext.refl _ _ _
  ·rw [hfl0,hH];exact s.sr.drew
  ·rw [hfl0,hH];exact s.fits t r e
 have hcnt : (List.range (Array.replicate ops.toArray.size false).size).countP (fun j=>!(Array.replicate ops.toArray.size false).getD j false) = ops.toArray.size:=by
  rw [List.countP_eq_length.2]
  ·simp
  ·intro j _;have:=hnl j;unfold isL at this;simpa using this
 refine wpIn_region_any hm (DInv.any ok s.size hs hchk (fun listed a' w' I hall=>?_) _ _ a _ hcnt I0)
 obtain ⟨h',β',X,s',K1,K2⟩:=I.st
 have hfl : zA eff listed = eff.map fun j=>Nat.blt j ops.length:=by
  unfold zA;apply List.map_congr_left;intro j _
  rcases Nat.lt_or_ge j ops.length with hj | hj
  ·have:=hall j hj;unfold isL at this;rw [this];symm;rw [Nat.blt_eq];exact hj
  ·have h1 : listed.getD j false = false:=by simp [Array.getElem?_eq_none (show listed.size <= j by rw [I.size];exact hj)]
   rw [h1];cases hb : Nat.blt j ops.length with
   | false=>rfl
   | true=>rw [Nat.blt_eq] at hb;omega
 rw [hfl] at X s' K1 K2
 refine ⟨D,_,_,h',β',hk,X,s',fun t x ex=>?_,I.keeps.size.trans s.size,by rw [I.keeps.defers];exact s.df.ext X⟩
 rcases vp hchk.get.1 ex with ⟨j,oj,h1,h2,h3,h4,h5⟩ | ⟨h1,h2⟩
 ·exact K2 j oj t x h1 (hall j (List.getElem?_eq_some_iff.1 h1).1) h2 h3 h4 fun k ok hk _ hjk=>h5 k ok hk hjk
 ·exact K1 t x h2 fun j o hj _=>h1 j o hj
end
end GA
end
section
namespace GA
open Go Go.RowKit
structure XAnd (A B : Prop) : Prop where
 l : A
 r : B
def allF : Nat -> List (List Bool)
 | 0=>[[]]
 | n + 1=>(allF n).flatMap fun l=>[l ++ [false],l ++ [true]]
def fE : List Bool -> List Bool -> Bool
 | [],[]=>true
 | true :: l,true :: m=>fE l m
 | false :: l,false :: m=>fE l m
 | _,_=>false
theorem gk : ∀ {l m : List Bool},fE l m = true -> l = m
 | [],[],_=>rfl
 | true :: l,true :: m,h=>by rw [gk (l:=l) (m:=m) h]
 | false :: l,false :: m,h=>by rw [gk (l:=l) (m:=m) h]
 | [],_ :: _,h=>by cases h
 | _ :: _,[],h=>by simp [fE] at h
 | true :: _,false :: _,h=>by cases h
 | false :: _,true :: _,h=>by cases h
theorem zaS : ∀ {n : Nat} {fl : List Bool},fl.length = n -> fl ∈ allF n
 | 0,fl,h=>by simp [allF,List.eq_nil_of_length_eq_zero h]
 | n + 1,fl,h=>by
   have hne : fl ≠ []:=by intro e;rw [e] at h;simp at h
   have h1 : fl.dropLast ++ [fl.getLast hne] = fl:=List.dropLast_concat_getLast hne
   have h2:=zaS (n:=n) (fl:=fl.dropLast) (by simp [h])
   simp only [allF,List.mem_flatMap]
   refine ⟨fl.dropLast,h2,?_⟩
   cases hb : fl.getLast hne with
   | true=>rw [hb] at h1;rw [h1];simp
   | false=>rw [hb] at h1;rw [h1];simp
section
variable (P : Program) (T : Tab) (N : Nat) (own : List Nat) (ops : List Oper) (eff : List Nat) (HS : List Bool -> List Blk)
def textF (i : Nat) : List Bool:=eff.map fun j=>Nat.blt j i
def ChkA : Nat -> List Oper -> List AV -> St -> Prop
 | _,[],[],_=>True
 | i,o :: l,r :: R,σ=>XAnd (Chk P T own ops eff HS i o σ r (textF eff i)) (ChkA (i + 1) l R (putX N σ o.dst r))
 | _,_,_,_=>False
def ChkF (fl : List Bool) : Nat -> List Oper -> List AV -> St -> Prop
 | i,o :: l,r :: R,σ=>match compat ops eff i fl && !fE fl (textF eff i) with
   | true=>XAnd (Chk P T own ops eff HS i o σ r fl) (ChkF fl (i + 1) l R (putX N σ o.dst r))
   | false=>ChkF fl (i + 1) l R (putX N σ o.dst r)
 | _,_,_,_=>True
def ChkB (R : List AV) (σ : St) : List (List Bool) -> Prop
 | []=>True
 | fl :: fls=>XAnd (ChkF P T N own ops eff HS fl 0 ops R σ) (ChkB R σ fls)
end
section
variable {P : Program} {T : Tab} {N : Nat} {own : List Nat} {ops : List Oper} {eff : List Nat} {HS : List Bool -> List Blk}
theorem ChkF.all : ∀ {l : List Oper} {R : List AV} {i : Nat} {σ : St},ChkA P T N own ops eff HS i l R σ -> (∀ fl,fl.length = eff.length -> ChkF P T N own ops eff HS fl i l R σ) -> jC P T N own ops eff HS i l R σ
 | [],[],_,_,_,_=>trivial
 | o :: l,r :: R,i,σ,hA,hB=>by
   refine ⟨fun fl hf hc=>?_,ChkF.all hA.r fun fl hf=>?_⟩
   ·cases hs : fE fl (textF eff i) with
    | true=>rw [gk hs];exact hA.l
    | false =>
      have:=hB fl hf
      simp only [ChkF,hc,hs] at this
      exact this.l
   ·have:=hB fl hf
    simp only [ChkF] at this
    split at this
    ·exact this.r
    ·exact this
 | [],_ :: _,_,_,h,_=>h.elim
 | _ :: _,[],_,_,h,_=>h.elim
theorem ChkB.get {R : List AV} {σ : St} : ∀ {fls : List (List Bool)},ChkB P T N own ops eff HS R σ fls -> ∀ fl ∈ fls,ChkF P T N own ops eff HS fl 0 ops R σ
 | fl :: fls,h,f,hf=>by
   rcases List.mem_cons.1 hf with rfl | hf
   ·exact h.l
   ·exact ChkB.get h.r f hf
def hsC (l : List (List Blk)) (fl : List Bool) : List Blk:=match lget l (fl.countP id) with | some H=>H | none=>[]
theorem Walk.drawX {ρ : Option Nat} {id : Nat} {Q : Post} {D : List Nat} {σ : St} {H : List Blk} (ok : zr P T) (hm : P.follows .mixedOrders = true) (own : List Nat) (eff : List Nat) (HS : List Bool -> List Blk) (R : List AV) (hs : Region.lexB .any ops.toArray = true)
  (hH : HS (eff.map fun _=>false) = H) (hA : ChkA P T N own ops eff HS 0 ops R σ) (hB : ChkB P T N own ops eff HS R σ (allF eff.length)) (hk : Q .normal D (qR N ops R σ) (HS (eff.map fun j=>Nat.blt j ops.length))) : Walk P N ρ (.region id ops.toArray true) Q D σ H:=
 .draw ok hm own eff HS R hs hH (ChkF.all hA fun fl hf=>hB.get fl (zaS hf)) hk
theorem ChkA.go {i : Nat} {l : List Oper} {R : List AV} {σ : St} (h : ChkA P T N own ops eff HS i l R σ) : ChkA P T N own ops eff HS i l R σ:=h
theorem ChkF.go {fl : List Bool} {i : Nat} {l : List Oper} {R : List AV} {σ : St} (h : ChkF P T N own ops eff HS fl i l R σ) : ChkF P T N own ops eff HS fl i l R σ:=h
theorem ChkB.go {R : List AV} {σ : St} {fls : List (List Bool)} (h : ChkB P T N own ops eff HS R σ fls) : ChkB P T N own ops eff HS R σ fls:=h
theorem Chk.go {i : Nat} {o : Oper} {σ : St} {r : AV} {fl : List Bool} (h : Chk P T own ops eff HS i o σ r fl) : Chk P T own ops eff HS i o σ r fl:=h
end
end GA
end
section
namespace GA
open Go Go.RowKit
section
variable {P : Program} {T : Tab} {N : Nat} {ρ : Option Nat} {D : List Nat} {σ : St} {H : List Blk} {Q : Post}
theorem AWp.loopG {c : Code} {G : Type} (st : G -> St) (hp : G -> List Blk) (μ : G -> Nat) (g0 : G) (hσ : ∀ t r,st g0 t = some r -> σ t = some r) (hH : hp g0 = H) (hD : D = [])
  (hlow : ∀ g,(∀ x ∈ hp g,x.low (hp g).length = true) /\ ∀ t r,st g t = some r -> r.low (hp g).length = true) (hlen : ∀ g,(hp g0).length <= (hp g).length)
  (round : ∀ g,AWp P N ρ c (kv (fun D' σ' H'=>D' = D /\ ∃ g' l,μ g' < μ g /\ hp g' ++ l = H' /\ ∀ t r,st g' t = some r -> σ' t = some r) Q) D (st g) (hp g)) : AWp P N ρ (.loop c) Q D σ H:=by
 intro E h β a w s
 subst hH;subst hD
 let I : G -> Act -> World -> Prop:=fun g a w=>∃ h' β',Ext h β (hp g0) h' β' (hp g) /\ yC P E N h' β' [] (st g) (hp g) a w
 have least : ∀ a w,(∃ g,I g a w) -> ∃ n,(∃ g,I g a w /\ μ g = n) /\ ∀ m,m < n -> ¬ ∃ g,I g a w /\ μ g = m:=
  fun a w ⟨g,hg⟩=>jl ⟨μ g,g,hg,rfl⟩
 classical
 let M : Act -> World -> Nat:=fun a w=>if e : ∃ g,I g a w then Classical.choose (least a w e) else 0
 have hM : ∀ a w (e : ∃ g,I g a w),(∃ g,I g a w /\ μ g = M a w) /\ ∀ g,I g a w -> M a w <= μ g:=by
  intro a w e
  have hc:=Classical.choose_spec (least a w e)
  have hm : M a w = Classical.choose (least a w e):=by simp only [M,dif_pos e]
  rw [hm]
  refine ⟨hc.1,fun g hg=>?_⟩
  rcases Nat.lt_or_ge (μ g) (Classical.choose (least a w e)) with hlt | hge
  ·exact absurd ⟨g,hg,rfl⟩ (hc.2 _ hlt)
  ·exact hge
 refine wpIn_loop (fun a w=>∃ g,I g a w) M ⟨g0,h,β,Ext.refl _ _ _,s.sr,fun t r e=>s.fits t r (hσ t r e),s.size,s.df⟩ ?_
 intro a' w' hI
 obtain ⟨⟨g,hg,hmu⟩,_⟩:=hM a' w' hI
 obtain ⟨h',β',X,s'⟩:=hg
 refine wpIn_mono (round g E h' β' a' w' s') ?_
 rintro e a'' w'' ⟨D'',σ'',H'',h'',β'',q,X',s''⟩
 cases e with
 | normal =>
   obtain ⟨rfl,g',l,hlt,rfl,hsub⟩:=q
   have hI' : I g' a'' w'':=by
    refine ⟨h'',β'',(X.trans X').cut (hlen g'),s''.sr.cut (hlow g').1,fun t r e=>?_,s''.size,s''.df.any⟩
    obtain ⟨v,h1,h2⟩:=s''.fits t r (hsub t r e)
    exact ⟨v,h1,h2.cut ((hlow g').2 t r e)⟩
   refine ⟨⟨g',hI'⟩,?_⟩
   have:=(hM a'' w'' ⟨g',hI'⟩).2 g' hI'
   omega
 | _=>exact ⟨D'',σ'',H'',h'',β'',q,X.trans X',s''⟩
structure zq {G : Type} (I : G -> Prop) (L : G -> List (Nat × AV)) (hp : G -> List Blk) (μ : G -> Nat) (g : G) (D' : List Nat) (σ' : St) (H' : List Blk) : Prop where
 d : D' = []
 o : ∃ g' l,I g' /\ μ g' < μ g /\ hp g' ++ l = H' /\ SubX (L g') σ'
theorem Walk.loopG {c : Code} {G : Type} (ok : zr P T) (own : List Nat) (I : G -> Prop) (L : G -> List (Nat × AV)) (hp : G -> List Blk) (μ : G -> Nat) (g0 : G) (h0 : I g0) (hH : hp g0 = H) (hs : SubX (L g0) σ)
  (hlow : ∀ g,I g -> (∀ x ∈ hp g,x.low (hp g).length = true) /\ ∀ p ∈ L g,p.2.low (hp g).length = true) (hlen : ∀ g,I g -> (hp g0).length <= (hp g).length)
  (round : ∀ g,I g -> XRun P T N ρ own c (kv (zq I L hp μ g) Q) [] (stX (L g)) (hp g)) : Walk P N ρ (.loop c) Q [] σ H:=by
 constructor
 have hst : ∀ (l : List (Nat × AV)) t r,stX l t = some r -> (t,r) ∈ l:=by
  intro l;induction l with
  | nil=>intro t r h;cases h
  | cons p l ih =>
    obtain ⟨u,x⟩:=p
    intro t r h;simp only [stX,yl,upd] at h
    split at h
    ·rename_i e;cases h;subst e;exact List.mem_cons_self
    ·exact List.mem_cons_of_mem _ (ih t r h)
 refine AWp.loopG (G:={g : G // I g}) (fun g=>stX (L g.1)) (fun g=>hp g.1) (fun g=>μ g.1) ⟨g0,h0⟩ (yz hs) hH rfl (fun g=>⟨(hlow g.1 g.2).1,fun t r e=>(hlow g.1 g.2).2 (t,r) (hst _ _ _ e)⟩) (fun g=>hlen g.1 g.2) fun g=>?_
 refine (XRun.sound ok (round g.1 g.2)).mono fun e D' σ' H' q=>?_
 cases e with
 | normal=>obtain ⟨h1,g',l,h2,h3,h4,h5⟩:=q;exact ⟨h1,⟨g',h2⟩,l,h3,h4,yz h5⟩
 | _=>exact q
theorem zq.go {G : Type} {I : G -> Prop} {L : G -> List (Nat × AV)} {hp : G -> List Blk} {μ : G -> Nat} {g : G} (g' : G) (l : List Blk) (h1 : I g') (h2 : μ g' < μ g) (h3 : hp g' ++ l = H) (h4 : SubX (L g') σ) : zq I L hp μ g [] σ H:=⟨rfl,g',l,h1,h2,h3,h4⟩
end
end GA
end
