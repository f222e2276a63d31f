/- Part 3 of a proof: Abs16, Abs17, Abs18, Tab, Abs19, Abs20, Abs21, Abs22, Abs23, Abs24, Abs25, Abs26, Abs27, Abs29, Abs30, Abs31, Abs32, Abs34, AbsS, Abs35, AbsI. -/
import Derived.Test.YtdeocemmlagnhaaGreatP2
import Derived.Test.YtdeocemmlagnhaaGreatProg
import Derived.KernelRfl
import Derived.OrdersIn
import Derived.WalkKit
import Derived.ProofKit
import Derived.OpenShut
import Derived.ChangeArms
import Derived.WideKeyArgs
import Derived.Deep.Slices
import Derived.Shelf.Spec.SlicesInsert
import Derived.Shelf.Spec.SlicesInsertGrow
set_option linter.unusedVariables false
set_option linter.unusedSimpArgs false
set_option maxRecDepth 8000
section
namespace GA
open Go Go.RowKit
def updX (σ : St) (d : Nat) (r : AV) : St:=fun t=>match Nat.beq t d with | true=>some r | false=>σ t
def putX (N : Nat) (σ : St) (d : Option Nat) (r : AV) : St:=match d with | some d=>(match Nat.blt d N with | true=>updX σ d r | false=>σ) | none=>σ
def stX : List (Nat × AV) -> St
 | []=>fun _=>none
 | (t,r) :: l=>updX (stX l) t r
theorem kq (σ : St) (d : Nat) (r : AV) : updX σ d r = upd σ d r:=by
 funext t;unfold updX upd
 by_cases h : t = d
 ·subst h;simp
 ·rw [if_neg h];cases e : Nat.beq t d with
  | true=>exact absurd (Nat.eq_of_beq_eq_true e) h
  | false=>rfl
theorem zbX (N : Nat) (σ : St) (d : Option Nat) (r : AV) : putX N σ d r = putO N σ d r:=by
 cases d with
 | none=>rfl
 | some d =>
   simp only [putX,putO]
   cases e : Nat.blt d N with
   | true=>rw [if_pos (by simpa [Nat.blt_eq] using e)];exact kq _ _ _
   | false=>rw [if_neg (by intro h;rw [<- Nat.blt_eq] at h;rw [h] at e;cases e)]
theorem v5 {σ : St} {d : Nat} {r : AV} (h : σ d = some r) : updX σ d r = σ:=by
 rw [kq];funext t;unfold upd;split
 ·rename_i e;rw [e,h]
 ·rfl
def xGate (all : List Oper) (σ : St) (g : Option (Nat × Bool)) (A B : St -> Prop) : Prop:=
 match g with
 | none=>A σ
 | some (j,want)=>bnd (lget all j) fun o=>bnd o.dst fun d=>bnd (σ d) fun r =>
   match r with
   | .bool b=>match want with
     | true=>XBr b (A (updX σ d (.bool true))) (B (updX σ d (.bool false)))
     | false=>XBr b (B (updX σ d (.bool true))) (A (updX σ d (.bool false)))
   | .tup []=>B σ
   | _=>False
def XReg (P : Program) (T : Tab) (N : Nat) (own : List Nat) (all : List Oper) : List Oper -> St -> List Blk -> (St -> List Blk -> Prop) -> Prop
 | [],σ,H,K=>K σ H
 | o :: rest,σ,H,K=>xGate all σ o.guard (fun σ=>XOp P T own o.dst σ H (fun r H'=>XReg P T N own all rest (putX N σ o.dst r) H' K) o.op) (fun σ=>XReg P T N own all rest (putX N σ o.dst (.tup [])) H K)
def fM (id : Nat) (Q : Post) : Post
 | .exit id',D,σ,H=>match Nat.beq id' id with | true=>Q .normal D σ H | false=>Q (.exit id') D σ H
 | e,D,σ,H=>Q e D σ H
def manyG : Nat -> List Oper -> Bool
 | 0,_=>true
 | _ + 1,[]=>false
 | n + 1,o :: l=>match o.guard with | none=>manyG (n + 1) l | some _=>manyG n l
def XRun (P : Program) (T : Tab) (N : Nat) (ρ : Option Nat) (own : List Nat) : Code -> Post -> List Nat -> St -> List Blk -> Prop
 | .skip,Q,D,σ,H=>Q .normal D σ H
 | .exit id,Q,D,σ,H=>Q (.exit id) D σ H
 | .ret,Q,D,σ,H=>Q .ret D σ H
 | .seq a b,Q,D,σ,H=>XRun P T N ρ own a (yX (XRun P T N ρ own b Q) Q) D σ H
 | .cond c x y,Q,D,σ,H=>bnd (ev σ c) fun r=>match r with | .bool b=>XBr b (XRun P T N ρ own x Q D σ H) (XRun P T N ρ own y Q D σ H) | _=>False
 | .block id b,Q,D,σ,H=>XRun P T N ρ own b (fM id Q) D σ H
 | .region id ops false,Q,D,σ,H=>match manyG 12 ops.toList with | true=>Walk P N ρ (.region id ops false) Q D σ H | false=>XReg P T N own ops.toList ops.toList σ H (Q .normal D)
 | c,Q,D,σ,H=>Walk P N ρ c Q D σ H
section
variable {P : Program} {T : Tab} {N : Nat} {ρ : Option Nat} {own : List Nat}
theorem zad {all : List Oper} {σ : St} {g : Option (Nat × Bool)} {A B : St -> Prop} (h : xGate all σ g A B) : gate all σ g (A σ) (B σ):=by
 unfold xGate at h
 split at h
 ·exact h
 ·rename_i j want
  obtain ⟨o',h1,h2⟩:=zf h
  obtain ⟨d,h3,h4⟩:=zf h2
  obtain ⟨r,h5,h6⟩:=zf h4
  rw [zo] at h1
  simp only [gate,h1,Option.bind_some,h3,zu,h5]
  split at h6
  ·rename_i b
   split at h6
   ·refine ⟨fun e=>?_,fun e=>?_⟩
    ·have e' : b = true:=by simpa using e
     subst e';have:=h6.t rfl;rw [v5 h5] at this;exact this
    ·have e' : b = false:=by simpa using e
     subst e';have:=h6.f rfl;rw [v5 h5] at this;exact this
   ·refine ⟨fun e=>?_,fun e=>?_⟩
    ·have e' : b = false:=by simpa using e
     subst e';have:=h6.f rfl;rw [v5 h5] at this;exact this
    ·have e' : b = true:=by simpa using e
     subst e';have:=h6.t rfl;rw [v5 h5] at this;exact this
  ·exact h6
  ·exact h6.elim
theorem XReg.sound {E : Env} (ok : zH P T) {all : List Oper} {K : St -> List Blk -> Prop} {Q : Exit -> Act -> World -> Prop} {a0 : Act} {h0 : Nat -> Option Obj} {β0 : Nat -> Value} {H0 : List Blk}
  (hQ : ∀ σ' H' h' β' a' w',K σ' H' -> Ext h0 β0 H0 h' β' H' -> SR P E h' β' H' w' -> Fits P h' β' H' σ' a' -> Keeps a0 a' -> Q .normal a' w') :
  ∀ (l : List Oper) (i : Nat) (σ : St) (H : List Blk) (h : Nat -> Option Obj) (β : Nat -> Value) (a : Act) (w : World),(∀ j,l[j]? = all[i + j]?) -> XReg P T N own all l σ H K -> Ext h0 β0 H0 h β H -> SR P E h β H w -> Fits P h β H σ a -> Keeps a0 a -> a.tmps.size = N ->
   wpOpsIn (FW ρ) 0 P all.toArray Q ((List.range l.length).map (i + ·)) a w
 | [],i,σ,H,h,β,a,w,_,hk,X,s,F,kp,hN=>hQ σ H h β a w hk X s F kp
 | o :: rest,i,σ,H,h,β,a,w,hl,hk,X,s,F,kp,hN=>by
   have ho : all.toArray[i]? = some o:=by have:=hl 0;simpa using this.symm
   have hrange : (List.range (o :: rest).length).map (i + ·) = i :: (List.range rest.length).map (i + 1 + ·):=by
    simp only [List.length_cons,List.range_succ_eq_map,List.map_cons,List.map_map,Nat.add_zero]
    congr 1
    apply List.map_congr_left;intro j _;simp;omega
   rw [hrange]
   simp only [wpOpsIn,ho]
   have ih:=fun σ' H' h' β' a' w'=>XReg.sound ok hQ rest (i + 1) σ' H' h' β' a' w' (fun j=>by have:=hl (j + 1);simpa [Nat.add_assoc,Nat.add_comm 1 j] using this)
   simp only [XReg] at hk
   rcases gn F (zad hk) with ⟨hw,hA⟩ | ⟨hw,hB⟩
   ·rw [if_pos hw]
    refine AOp.sound (hA.sound ok) s F ?_
    intro r H' h' β' w' v hk' X' s' hr
    rw [zbX] at hk'
    exact ih _ H' h' β' _ w' hk' (X.trans X') s' ((F.ext X').put hN hr) ⟨(w2 _ _ _).trans kp.size,(vI _ _ _).trans kp.defers⟩ ((w2 _ _ _).trans hN)
   ·rw [if_neg (by rw [hw];simp)]
    rw [zbX] at hB
    exact ⟨fun _ _=>trivial,ih _ H h β _ w hB X s (F.put hN za5) ⟨(w2 _ _ _).trans kp.size,(vI _ _ _).trans kp.defers⟩ ((w2 _ _ _).trans hN)⟩
theorem AWp.regionX {id : Nat} {ops : Array Oper} {Q : Post} {D : List Nat} {σ : St} {H : List Blk} (ok : zH P T) (x : XReg P T N own ops.toList ops.toList σ H (Q .normal D)) : AWp P N ρ (.region id ops false) Q D σ H:=by
 intro E h β a w s
 refine wpIn_region ?_
 have:=XReg.sound (ρ:=ρ) (Q:=Conc P E N h β H Q) (a0:=a) (h0:=h) (β0:=β) (H0:=H) ok (fun σ' H' h' β' a' w' k X s' F kp=>⟨D,σ',H',h',β',k,X,s',F,kp.size.trans s.size,by rw [kp.defers];exact s.df.ext X⟩)
  ops.toList 0 σ H h β a w (by simp) x (Ext.refl _ _ _) s.sr s.fits ⟨rfl,rfl⟩ s.size
 simpa using this
theorem zax (id : Nat) (Q : Post) : fM id Q = gX id Q:=by
 funext e D σ H
 cases e with
 | exit id' =>
   simp only [fM,gX]
   by_cases h : id' = id
   ·subst h;simp
   ·rw [if_neg h];cases e : Nat.beq id' id with
    | true=>exact absurd (Nat.eq_of_beq_eq_true e) h
    | false=>rfl
 | _=>rfl
theorem XRun.sound (ok : zH P T) : ∀ {c : Code} {Q : Post} {D : List Nat} {σ : St} {H : List Blk},XRun P T N ρ own c Q D σ H -> AWp P N ρ c Q D σ H
 | .skip,_,_,_,_,x=>.skip x
 | .exit _,_,_,_,_,x=>.exit x
 | .ret,_,_,_,_,x=>.ret x
 | .seq a b,Q,_,_,_,x=>.seq (AWp.mono (Q:=yX (XRun P T N ρ own b Q) Q) (XRun.sound ok (c:=a) x) fun e D σ H q=>by
   cases e with
   | normal=>exact XRun.sound ok (c:=b) (Q:=Q) q
   | _=>exact q)
 | .cond c _ _,_,_,_,_,x=>by
   obtain ⟨r,h1,h2⟩:=zf x
   split at h2
   ·exact .cond h1 (fun h=>XRun.sound ok (h2.t h)) (fun h=>XRun.sound ok (h2.f h))
   ·exact h2.elim
 | .block id b,Q,D,σ,H,x=>.block (by rw [<- zax];exact XRun.sound ok x)
 | .region id ops false,Q,D,σ,H,x=>by
   unfold XRun at x
   split at x
   ·exact x.o
   ·exact .regionX ok x
 | .region _ _ true,_,_,_,_,x=>x.o
 | .loop _,_,_,_,_,x=>x.o
 | .rangeFunc ..,_,_,_,_,x=>x.o
 | .scope _,_,_,_,_,x=>x.o
 | .label _,_,_,_,_,x=>x.o
 | .goto _,_,_,_,_,x=>x.o
 | .refuse _,_,_,_,_,x=>x.o
end
end GA
end
section
namespace GA
open Go Go.RowKit
def Ret (r0 : AV) (H0 : List Blk) : AV -> List Blk -> Prop:=fun r H=>r = r0 /\ H = H0
section
variable {P : Program} {T : Tab} {N : Nat} {ρ : Option Nat} {own : List Nat} {E : Env} {h : Nat -> Option Obj} {β : Nat -> Value} {H : List Blk} {w : World} {σ : St} {a : Act}
noncomputable def hall (h : Nat -> Option Obj) (β : Nat -> Value) (H : List Blk) (w : World) : Nat -> Option Obj:=by
 classical exact fun b=>if ∃ i,blkOf β H i = some b then w.heap[b]? else h b
theorem w0 {b i : Nat} (e : blkOf β H i = some b) : hall h β H w b = w.heap[b]?:=by
 unfold hall;rw [if_pos ⟨i,e⟩]
theorem k7 (s : SR P E h β H w) {b : Nat} {o : Obj} (e : h b = some o) : hall h β H w b = some o:=by
 unfold hall;split
 ·rename_i hh;obtain ⟨i,hi⟩:=hh;rw [s.fresh _ _ hi] at e;cases e
 ·exact e
theorem SR.all (s : SR P E h β H w) : SR P E (hall h β H w) β [] w:=by
 refine ⟨s.env,fun b o e=>?_,fun i x e=>by simp at e,fun i j x e=>by simp [blkOf] at e,fun i x e=>by simp [blkOf] at e,fun b o e=>⟨(s.frm b o e).1,?_⟩,fun i x e=>by simp [blkOf] at e⟩
 ·unfold hall at e;split at e
  ·exact e
  ·exact s.imm b o e
 ·unfold hall;split
  ·rename_i hh;obtain ⟨i,hi⟩:=hh;rw [s.fro _ _ hi] at e;cases e
  ·exact (s.frm b o e).2
def Froz (P : Program) (H : List Blk) (r r' : AV) : Prop:=
 ∀ E h β w,SR P E h β H w -> ∀ v,Rep P h β H r v -> Rep P (hall h β H w) β [] r' v
def yC (P : Program) (H : List Blk) (rs rs' : List AV) : Prop:=rs'.length = rs.length /\ ∀ (j : Nat) x,rs'[j]? = some x -> ∃ y,rs[j]? = some y /\ Froz P H y x
theorem Rep.none {β' : Nat -> Value} {r : AV} {v : Value} (x : Rep P h β [] r v) : Rep P h β' H r v:=by
 induction x with
 | bool b=>exact .bool b
 | int k n=>exact .int k n
 | nilp=>exact .nilp
 | ptr hi _=>exact hi.nil.elim
 | pim us h1 h2 h3 _ ih=>exact .pim us h1 h2 h3 ih
 | slnil=>exact .slnil
 | slemp=>exact .slemp
 | sl us h1 h2 h3 h4 h5 h6 h7 h8 _ ih=>exact .sl us h1 h2 h3 h4 h5 h6 h7 h8 ih
 | se=>exact .se
 | gr _ hi _=>exact hi.nil.elim
 | gp hi _=>exact hi.nil.elim
 | nilm=>exact .nilm
 | mp hi _=>exact hi.nil.elim
 | nilf=>exact .nilf
 | yld hi _=>exact hi.nil.elim
 | fn us h1 h2 _ ih=>exact .fn us h1 h2 ih
 | bf us h1 h2 _ ih=>exact .bf us h1 h2 ih
 | os hi _ _ _ _=>exact hi.nil.elim
 | agg us h1 h2 h3 _ ih=>exact .agg us h1 h2 h3 ih
 | tup us h1 h2 _ ih=>exact .tup us h1 h2 ih
 | im us h0 h1 h2 h3 h4 _ ih=>exact .im us h0 h1 h2 h3 h4 ih
theorem Froz.low {r : AV} (hl : r.low 0 = true) : Froz P H r r:=by
 intro E h β w s v hr
 have h0 : Rep P h β [] r v:=Rep.cut (H:=[]) (l:=H) hr hl
 have X : Ext h β [] (hall h β H w) β []:=⟨fun b o e=>k7 s e,Nat.le_refl _,by simp⟩
 exact X.rep h0
theorem yC.low : ∀ {rs : List AV},lowL 0 rs = true -> yC P H rs rs:=
 fun {rs} hl=>⟨rfl,fun j x e=>⟨x,e,Froz.low ((zw.1 hl) x (List.mem_of_getElem? e))⟩⟩
theorem yC.nil : yC P H [] []:=⟨rfl,by simp⟩
theorem yC.cons {r r' : AV} {rs rs' : List AV} (h1 : Froz P H r r') (h2 : yC P H rs rs') : yC P H (r :: rs) (r' :: rs'):=by
 refine ⟨by simp [h2.1],fun j x e=>?_⟩
 cases j with
 | zero=>simp at e;subst e;exact ⟨r,rfl,h1⟩
 | succ j=>exact h2.2 j x (by simpa using e)
theorem Froz.tup {rs rs' : List AV} (hs : yC P H rs rs') : Froz P H (.tup rs) (.tup rs'):=by
 intro E h β w s v hr
 cases hr with
 | tup us h1 h2 h3 =>
   refine .tup us (by rw [h1,hs.1]) (fun j x e=>?_) (fun j x e=>?_)
   ·obtain ⟨y,e1,_⟩:=hs.2 j x e;exact h2 j y e1
   ·obtain ⟨y,e1,e2⟩:=hs.2 j x e;exact e2 E h β w s _ (h3 j y e1)
theorem Froz.agg {rs rs' : List AV} (hone : ∀ x ∈ rs',x.one = true) (hs : yC P H rs rs') : Froz P H (.agg rs) (.agg rs'):=by
 intro E h β w s v hr
 cases hr with
 | agg us h1 h0 h2 h3 =>
   refine .agg us (by rw [h1,hs.1]) hone (fun j x e=>?_) (fun j x e=>?_)
   ·obtain ⟨y,e1,_⟩:=hs.2 j x e;exact h2 j y e1
   ·obtain ⟨y,e1,e2⟩:=hs.2 j x e;exact e2 E h β w s _ (h3 j y e1)
theorem Froz.fn {f : FuncId} {rs rs' : List AV} (hs : yC P H rs rs') : Froz P H (.fn f rs) (.fn f rs'):=by
 intro E h β w s v hr
 cases hr with
 | fn us h1 h2 h3 =>
   refine .fn us (by rw [h1,hs.1]) (fun j x e=>?_) (fun j x e=>?_)
   ·obtain ⟨y,e1,_⟩:=hs.2 j x e;exact h2 j y e1
   ·obtain ⟨y,e1,e2⟩:=hs.2 j x e;exact e2 E h β w s _ (h3 j y e1)
theorem Froz.ptr {i o : Nat} {cs cs' : List AV} (hb : lget H i = some (.cells cs)) (hone : ∀ x ∈ cs',x.one = true) (hs : yC P H (cs.drop o) cs') : Froz P H (.ptr i o) (.pim cs'):=by
 rw [zo] at hb
 intro E h β w s v hr
 cases hr with
 | @ptr _ _ b hi h1 =>
   have hβ:=h1 cs hb
   obtain ⟨b',c,t,h2,h3,h4,h5,us,h6,h7⟩:=s.blk i _ hb
   rw [hβ] at h2;cases h2
   have hbo : blkOf β H i = some b:=by simp only [blkOf,hb,hβ];rfl
   refine .pim (fun j=>us (o + j)) hone ((w0 hbo).trans h3) (fun j x e=>?_) (fun j x e=>?_)
   ·obtain ⟨y,e1,_⟩:=hs.2 j x e;rw [List.getElem?_drop] at e1;exact h6 _ y e1
   ·obtain ⟨y,e1,e2⟩:=hs.2 j x e;rw [List.getElem?_drop] at e1;exact e2 E h β w s _ (h7 _ y e1)
theorem Froz.mp {i : Nat} {es : List (Int × AV)} {vs : List AV} (hb : lget H i = some (.map es)) (hs : yC P H (es.map (·.2)) vs) : Froz P H (.mp i) (.im (es.map (·.1)) vs):=by
 rw [zo] at hb
 intro E h β w s v hr
 cases hr with
 | @mp _ r hi h1 =>
   have hβ:=h1 _ hb rfl
   obtain ⟨r',ents,clock,h2,h3,h4,hsz,us,h5⟩:=s.blk i _ hb
   rw [hβ] at h2;cases h2
   have hbo : blkOf β H i = some r:=by simp only [blkOf,hb,hβ];rfl
   refine .im us ((w0 hbo).trans h3) (by rw [hs.1,List.length_map,List.length_map]) (by rw [hsz,List.length_map]) h4 (fun j q x e1 e2=>?_) (fun j x e=>?_)
   ·rw [List.getElem?_map] at e1
    cases he : es[j]? with
    | none=>rw [he] at e1;cases e1
    | some p=>obtain ⟨q',y⟩:=p;rw [he] at e1;cases e1;exact (h5 j q' y he).2
   ·obtain ⟨y,e1,e2⟩:=hs.2 j x e
    rw [List.getElem?_map] at e1
    cases he : es[j]? with
    | none=>rw [he] at e1;cases e1
    | some p=>obtain ⟨q',y'⟩:=p;rw [he] at e1;cases e1;exact e2 E h β w s _ (h5 j q' _ he).1
theorem Froz.gr {i n : Nat} {t : TypeId} {nl : Bool} {els els' : List AV} (hb : lget H i = some (.grow t nl els)) (hn : els.length = n) (hlen : els'.length = els.length) (hc : ∀ e ∈ els',e.cells.length = sz P t) (hone : ∀ x ∈ flat els',x.one = true)
  (hs : yC P H (flat els) (flat els')) : Froz P H (.gr i n) (.sl nl els'):=by
 rw [zo] at hb
 intro E h β w s v hr
 cases hr with
 | gr ho hi hv =>
   obtain ⟨h1,h2⟩:=hv _ _ _ hb
   have hβ:=h2 hn
   subst hβ
   rcases s.blk i _ hb with ⟨rfl,rfl,h3⟩ | ⟨rfl,rfl,b,h3⟩ | ⟨rfl,b,cap,c,h3,h4,h5,h6,h7,h8,h9,h10,h11,us,h12,h13⟩
   ·rw [h3]
    cases els' with | cons _ _=>simp at hlen | nil=>exact .slnil
   ·rw [h3]
    cases els' with | cons _ _=>simp at hlen | nil=>exact .slemp
   ·rw [h3]
    cases els' with
    | nil =>
      have : els.length = 0:=by simpa using hlen.symm
      rw [this];exact .slemp
    | cons e0 l0 =>
      have hbo : blkOf β H i = some b:=by simp only [blkOf,hb,h3,anchor];rw [if_neg (by omega)]
      refine .sl us (by rw [hlen]) (by simp) ((w0 hbo).trans h5) hc h9 hone (by rw [hlen];exact h6) (fun j x e=>?_) (fun j x e=>?_)
      ·obtain ⟨y,e1,_⟩:=hs.2 j x e;rw [Nat.zero_add];exact h12 j y e1
      ·obtain ⟨y,e1,e2⟩:=hs.2 j x e;exact e2 E h β w s _ (h13 j y e1)
theorem Froz.grow {i n : Nat} {t : TypeId} {nl : Bool} {els : List AV} (hb : lget H i = some (.grow t nl els)) (hn : els.length = n) (hl : lowL 0 els = true) : Froz P H (.gr i n) (.sl nl els):=by
 intro E h β w s v hr
 have hb':=hb;rw [zo] at hb'
 cases hr with
 | gr ho hi hv =>
   rcases s.blk i _ hb' with ⟨rfl,rfl,_⟩ | ⟨rfl,rfl,_⟩ | ⟨rfl,b,cap,c,h3,h4,h5,h6,h7,h8,h9,h10,h11,us,h12,h13⟩
   ·exact Froz.gr hb hn rfl (by simp) (by simp [flat]) ⟨rfl,by simp [flat]⟩ E h β w s v (.gr ho hi hv)
   ·exact Froz.gr hb hn rfl (by simp) (by simp [flat]) ⟨rfl,by simp [flat]⟩ E h β w s v (.gr ho hi hv)
   ·exact Froz.gr hb hn rfl h10 h11 (yC.low (by rw [zw];exact ju.1 hl)) E h β w s v (.gr ho hi hv)
def xRes (T : Tab) (σ : St) (H : List Blk) : List ResultVar -> (List AV -> Prop) -> Prop
 | [],k=>k []
 | .tmp t :: l,k=>bnd (σ t) fun r=>xRes T σ H l fun rs=>k (r :: rs)
 | .cell a t :: l,k=>bnd (σ a) fun p=>xLoad T t H p fun r=>xRes T σ H l fun rs=>k (r :: rs)
structure XOut (P : Program) (H : List Blk) (r r0 : AV) : Prop where
 o : Froz P H r r0
def XFn (P : Program) (T : Tab) (res : List ResultVar) (r0 : AV) : Post:=fun e D σ H =>
 match e,D with
 | .normal,[] | .ret,[]=>xRes T σ H res fun rs=>XOut P H (pack rs) r0
 | _,_=>False
theorem zcJ {t : TypeId} {p : AV} {k k' : AV -> Prop} (x : kb P t H p k) (hk : ∀ r,k r -> k' r) : kb P t H p k':=by
 unfold kb at x ⊢
 refine zp x fun ti _ x=>zp x fun cs _ x=>?_
 split at x
 ·rename_i e;rw [if_pos e];exact ⟨x.1,hk _ x.2⟩
 ·rename_i e;rw [if_neg e];exact zp x fun _ _ x=>hk _ x
theorem wG (ok : zH P T) : ∀ {l : List ResultVar} {k : List AV -> Prop},xRes T σ H l k -> resA P σ H l k
 | [],_,h=>h
 | .tmp t :: l,k,h=>zp h fun _ _ h1=>wG ok h1
 | .cell a t :: l,k,h=>zp h fun _ _ h1=>zcJ (gb ok h1) fun _ h2=>wG ok h2
structure Comp (P : Program) (f : FuncId) (rs : List AV) (r : AV) : Prop where
 lo : lowL 0 rs = true
 o : z7 P f rs [] (Ret r [])
def argX (rs : List AV) : St:=fun t=>lget rs t
theorem zbY (rs : List AV) : argX rs = argsSt rs:=by funext t;exact zo _ _
theorem zb.ret {f : FuncId} {rs : List AV} {r0 : AV} {k : AV -> List Blk -> Prop} (x : Comp P f rs r0) (hk : k r0 H) : zb P f rs H k:=by
 refine ⟨x.o.1,fun E h β w vs s hr=>?_⟩
 classical
 let E' : Env:=⟨E.b,fun b=>if ∃ i,blkOf β H i = some b then w.heap[b]? else E.fr b,E.en⟩
 have s0 : SR P E' h β [] w:=by
  refine ⟨s.env,s.imm,fun i x e=>by simp at e,fun i j x e=>by simp [blkOf] at e,fun i x e=>by simp [blkOf] at e,fun b o e=>?_,fun i x e=>by simp [blkOf] at e⟩
  simp only [E'] at e
  split at e
  ·rename_i hh;obtain ⟨i,hi⟩:=hh;exact ⟨e,s.fresh _ _ hi⟩
  ·exact s.frm b o e
 have hr0 : RepL P h β [] rs vs:=⟨hr.1,fun j y e=>by
  obtain ⟨v,e1,e2⟩:=hr.2 j y e
  exact ⟨v,e1,Rep.cut (H:=[]) (l:=H) e2 ((zw.1 x.lo) y (List.mem_of_getElem? e))⟩⟩
 refine (x.o.2 E' h β w vs s0 hr0).mono ?_
 rintro e w' ⟨r,H',h',β',v,rfl,⟨rfl,rfl⟩,X,s',hrep⟩
 have X' : Ext h β H h' β H:=⟨X.imm,Nat.le_refl _,fun i x x' e e'=>by rw [e] at e';cases e';exact Blk.to_refl _ _ _⟩
 have hfr : ∀ i b o,blkOf β H i = some b -> w.heap[b]? = some o -> w'.heap[b]? = some o /\ h' b = none:=fun i b o e eo=>s'.frm b o (by simp only [E'];rw [if_pos ⟨i,e⟩];exact eo)
 have hown : ∀ i b,blkOf β H i = some b -> w'.heap[b]? = w.heap[b]?:=fun i b e=>by
  have hlt:=s.lt e
  have : w.heap[b]? = some w.heap[b]:=Array.getElem?_eq_getElem hlt
  rw [(hfr i b _ e this).1,this]
 refine ⟨r,H,h',β,v,rfl,hk,X',⟨s'.env,s'.imm,fun i x e=>?_,s.own,fun i b e=>?_,fun b o e=>?_,s.fro⟩,hrep.none⟩
 ·exact (s.blk i x e).keep X' rfl fun hd hd' b hb=>hown i b (by unfold blkOf;rw [e];cases x <;> first|exact absurd rfl hd|exact absurd rfl hd'|exact hb)
 ·have hlt:=s.lt e
  exact (hfr i b _ e (Array.getElem?_eq_getElem hlt)).2
 ·refine s'.frm b o ?_
  simp only [E'];rw [if_neg];exact e
  rintro ⟨i,hi⟩;rw [s.fro _ _ hi] at e;cases e
mutual
def AV.plain : AV -> Bool
 | .bool _ | .int _ _ | .nilp | .nilm | .nilf=>true
 | .sl true []=>true
 | .agg cs | .tup cs=>gU cs
 | _=>false
def gU : List AV -> Bool
 | []=>true
 | x :: l=>x.plain && gU l
end
theorem vH : ∀ {l : List AV},gU l = true ↔ ∀ x ∈ l,x.plain = true
 | []=>by simp [gU]
 | x :: l=>by simp [gU,vH (l:=l)]
theorem Rep.plain {h' : Nat -> Option Obj} {β' : Nat -> Value} {H' : List Blk} {r : AV} {v : Value} (x : Rep P h β H r v) (hp : r.plain = true) : Rep P h' β' H' r v:=by
 induction x with
 | bool b=>exact .bool b
 | int k n=>exact .int k n
 | nilp=>exact .nilp
 | nilm=>exact .nilm
 | nilf=>exact .nilf
 | slnil=>exact .slnil
 | agg us h1 h2 h3 _ ih =>
   simp only [AV.plain] at hp;rw [vH] at hp
   exact .agg us h1 h2 h3 fun j x e=>ih j x e (hp x (List.mem_of_getElem? e))
 | tup us h1 h2 _ ih =>
   simp only [AV.plain] at hp;rw [vH] at hp
   exact .tup us h1 h2 fun j x e=>ih j x e (hp x (List.mem_of_getElem? e))
 | _=>simp [AV.plain] at hp
theorem zb.lend {f : FuncId} {rs rs' : List AV} {r0 : AV} {k : AV -> List Blk -> Prop} (x : Comp P f rs' r0) (hf : yC P H rs rs') (hp : r0.plain = true) (hk : k r0 H) : zb P f rs H k:=by
 refine ⟨x.o.1,fun E h β w vs s hr=>?_⟩
 have hr0 : RepL P (hall h β H w) β [] rs' vs:=⟨by rw [hf.1];exact hr.1,fun j y e=>by
  obtain ⟨z,e1,e2⟩:=hf.2 j y e
  obtain ⟨v,e3,e4⟩:=hr.2 j z e1
  exact ⟨v,e3,e2 E h β w s v e4⟩⟩
 refine (x.o.2 E _ β w vs s.all hr0).mono ?_
 rintro e w' ⟨r,H',h',β',v,rfl,⟨rfl,rfl⟩,X,s',hrep⟩
 have hown : ∀ i b,blkOf β H i = some b -> w'.heap[b]? = w.heap[b]?:=fun i b e=>by
  have hlt:=s.lt e
  have e1 : w.heap[b]? = some w.heap[b]:=Array.getElem?_eq_getElem hlt
  have e2:=s'.imm b _ (X.imm b _ ((w0 (h:=h) (w:=w) e).trans e1))
  rw [e2,e1]
 refine ⟨r,H,h,β,v,rfl,hk,Ext.refl _ _ _,⟨s'.env,fun b o e=>s'.imm b o (X.imm b o (k7 s e)),fun i x e=>?_,s.own,s.fresh,fun b o e=>⟨(s'.frm b o e).1,(s.frm b o e).2⟩,s.fro⟩,hrep.plain hp⟩
 exact (s.blk i x e).keep (Ext.refl _ _ _) rfl fun hd hd' b hb=>hown i b (by unfold blkOf;rw [e];cases x <;> first|exact absurd rfl hd|exact absurd rfl hd'|exact hb)
end
def SubX : List (Nat × AV) -> St -> Prop
 | [],_=>True
 | (t,r) :: l,σ=>σ t = some r /\ SubX l σ
structure zj {G : Type} (I : G -> Prop) (L : G -> List (Nat × AV)) (hp : G -> List Blk) (μ : G -> Nat) (g : G) (D : List Nat) (D' : List Nat) (σ' : St) (H' : List Blk) : Prop where
 d : D' = D
 o : ∃ g',I g' /\ μ g' < μ g /\ hp g' = H' /\ SubX (L g') σ'
section
variable {P : Program} {T : Tab} {N : Nat} {ρ : Option Nat} {D : List Nat} {σ : St} {H : List Blk}
theorem kR : ∀ {l : List (Nat × AV)} {σ : St},SubX l σ -> ∀ t r,stX l t = some r -> σ t = some r
 | [],_,_,_,_,e=>by cases e
 | (u,x) :: l,σ,h,t,r,e=>by
   simp only [stX,kq,upd] at e
   split at e
   ·rename_i h1;subst h1;cases e;exact h.1
   ·exact kR h.2 t r e
theorem Walk.loop {c : Code} {Q : Post} {G : Type} (ok : zH P T) (own : List Nat) (I : G -> Prop) (L : G -> List (Nat × AV)) (hp : G -> List Blk) (μ : G -> Nat) (g0 : G) (h0 : I g0) (hH : hp g0 = H) (hs : SubX (L g0) σ)
  (round : ∀ g,I g -> XRun P T N ρ own c (yX (zj I L hp μ g D) Q) D (stX (L g)) (hp g)) : Walk P N ρ (.loop c) Q D σ H:=by
 constructor
 refine AWp.loop (G:={g : G // I g}) (fun g=>stX (L g.1)) (fun g=>hp g.1) (fun g=>μ g.1) ⟨g0,h0⟩ (kR hs) hH fun g=>?_
 refine (XRun.sound ok (round g.1 g.2)).mono fun e D' σ' H' q=>?_
 cases e with
 | normal=>obtain ⟨h1,g',h2,h3,h4,h5⟩:=q;exact ⟨h1,⟨g',h2⟩,h3,h4,kR h5⟩
 | _=>exact q
theorem zj.go {G : Type} {I : G -> Prop} {L : G -> List (Nat × AV)} {hp : G -> List Blk} {μ : G -> Nat} {g : G} (g' : G) (h1 : I g') (h2 : μ g' < μ g) (h3 : hp g' = H) (h4 : SubX (L g') σ) : zj I L hp μ g D D σ H:=⟨rfl,g',h1,h2,h3,h4⟩
theorem XBr.tt {A B : Prop} (h : A) : XBr true A B:=⟨fun _=>h,nofun⟩
theorem XBr.ff {A B : Prop} (h : B) : XBr false A B:=⟨nofun,fun _=>h⟩
theorem XBr.yes {c : Bool} {A B : Prop} (e : c = true) (h : A) : XBr c A B:=by subst e;exact .tt h
theorem XBr.no {c : Bool} {A B : Prop} (e : c = false) (h : B) : XBr c A B:=by subst e;exact .ff h
theorem XBr.dec {p : Prop} [Decidable p] {A B : Prop} (h1 : p -> A) (h2 : ¬ p -> B) : XBr (decide p) A B:=⟨fun h=>h1 (of_decide_eq_true h),fun h=>h2 (of_decide_eq_false h)⟩
theorem XBr.beq {a b : Int} {A B : Prop} (h1 : a = b -> A) (h2 : a ≠ b -> B) : XBr (a == b) A B:=⟨fun h=>h1 (by simpa using h),fun h=>h2 (by simpa using h)⟩
theorem XBr.bne {a b : Int} {A B : Prop} (h1 : a ≠ b -> A) (h2 : a = b -> B) : XBr (a != b) A B:=⟨fun h=>h1 (by simpa using h),fun h=>h2 (by simpa using h)⟩
theorem XBr.not {b : Bool} {A B : Prop} (h : XBr b B A) : XBr (!b) A B:=⟨fun e=>h.2 (by simpa using e),fun e=>h.1 (by simpa using e)⟩
theorem XBr.mk' {b : Bool} {A B : Prop} (h1 : b = true -> A) (h2 : b = false -> B) : XBr b A B:=⟨h1,h2⟩
theorem XInt.i64 {x : Int} {k : AV -> Prop} (h1 : -9223372036854775808 <= x) (h2 : x <= 9223372036854775807) (h : k (.int .i64 x)) : XInt .i64 x k:=by
 refine ⟨?_⟩
 have : IntKind.i64.wrap x = x:=by
  simp only [IntKind.wrap,IntKind.bits,IntKind.signed];simp;omega
 rw [this];exact h
theorem XIx.map {α : Type} [Inhabited α] {f : α -> AV} {xs : List α} {n : Int} {w : Nat} {k : AV -> Prop} (h1 : 0 <= n) (h2 : n < xs.length) (hw : ∀ x,(f x).cells.length = w) (h : k (.pim (f (xs.getD n.toNat default)).cells)) : XIx (xs.map f) n w k:=by
 have e : nth (xs.map f) n = f (xs.getD n.toNat default):=by
  unfold nth
  have : n.toNat < xs.length:=by omega
  rw [List.getD_eq_getElem?_getD,List.getD_eq_getElem?_getD,List.getElem?_map,List.getElem?_eq_getElem this];rfl
 exact ⟨h1,by simpa using h2,by rw [e];exact hw _,by rw [e];exact h⟩
theorem XIx.nat {α : Type} [Inhabited α] {f : α -> AV} {xs : List α} {i w : Nat} {k : AV -> Prop} (h2 : i < xs.length) (hw : ∀ x,(f x).cells.length = w) (h : k (.pim (f (xs.getD i default)).cells)) : XIx (xs.map f) (i : Int) w k:=
 XIx.map (by omega) (by omega) hw h
theorem zaP {cs : List AV} {off : Nat} {c : AV} (h : cs[off]? = some c) : cs.drop off = c :: cs.drop (off + 1):=by
 obtain ⟨h1,h2⟩:=List.getElem?_eq_some_iff.1 h
 rw [List.drop_eq_getElem_cons h1,h2]
theorem XArr.at {cs : List AV} {n : Int} {m w : Nat} {k : AV -> Prop} (c : AV) (h1 : 0 <= n) (h2 : n < m) (hc : cs[n.toNat * w]? = some c) (h : k (.pim (c :: cs.drop (n.toNat * w + 1)))) : XArr (.pim cs) n m w k:=
 ⟨h1,h2,by show k (.pim (cs.drop _));rw [zaP hc];exact h⟩
theorem XArr.ptr {i o : Nat} {n : Int} {m w : Nat} {k : AV -> Prop} (h1 : 0 <= n) (h2 : n < m) (h : k (.ptr i (o + n.toNat * w))) : XArr (.ptr i o) n m w k:=⟨h1,h2,h⟩
theorem XArr.pim {cs : List AV} {n : Int} {m w : Nat} {k : AV -> Prop} (h1 : 0 <= n) (h2 : n < m) (h : k (.pim (cs.drop (n.toNat * w)))) : XArr (.pim cs) n m w k:=⟨h1,h2,h⟩
theorem zcr {cs : List AV} {off : Nat} {k : List AV -> Prop} (c : AV) (hc : cs[off]? = some c) (h : k (c :: cs.drop (off + 1))) : xdrop off cs k:=by
 have : ∀ {off : Nat} {cs : List AV},off <= cs.length -> k (cs.drop off) -> xdrop off cs k:=by
  intro off;induction off with
  | zero=>intro cs _ h;exact h
  | succ n ih=>intro cs hl h;cases cs with
    | nil=>simp at hl
    | cons c cs=>exact ih (by simpa using hl) (by simpa using h)
 exact this (by have:=(List.getElem?_eq_some_iff.1 hc).1;omega) (by rw [zaP hc];exact h)
theorem qR {a b : List AV} {n : Nat} {k : List AV -> Prop} (hn : a.length = n) (h : k b) : xdrop n (a ++ b) k:=by
 have : ∀ {n : Nat} {a : List AV},a.length = n -> xdrop n (a ++ b) k:=by
  intro n;induction n with
  | zero=>intro a ha;rw [List.eq_nil_of_length_eq_zero ha];exact h
  | succ n ih=>intro a ha;cases a with
    | nil=>simp at ha
    | cons c cs=>exact ih (by simpa using ha)
 exact this hn
theorem wt {α : Type} {f : α -> AV} {n : Nat} (h1 : ∀ x,(f x).cells.length = n) (h2 : ∀ x,(f x).isTup = false) : ∀ (xs : List α),wide n (xs.map f) = true
 | []=>rfl
 | x :: xs=>by simp [wide,h1,h2,wt h1 h2 xs]
theorem yr {α : Type} {f : α -> AV} {n : Nat} (hf : ∀ x,(f x).low n = true) (xs : List α) : lowL n (xs.map f) = true:=by
 rw [zw];intro x hx;obtain ⟨y,_,rfl⟩:=List.mem_map.1 hx;exact hf y
end
end GA
namespace GA
open Go
section
variable {P : Program} {H : List Blk}
theorem XOut.bool {b b' : Bool} (e : b = b') : XOut P H (.bool b) (.bool b'):=by subst e;exact ⟨.low rfl⟩
theorem XOut.int {q : IntKind} {n n' : Int} (e : n = n') : XOut P H (.int q n) (.int q n'):=by subst e;exact ⟨.low rfl⟩
end
end GA
namespace GA
open Go
theorem zD {α : Type} [Inhabited α] {xs : List α} {i : Nat} (h : i < xs.length) : xs.take (i + 1) = xs.take i ++ [xs.getD i default]:=by
 rw [List.take_add_one,List.getElem?_eq_getElem h,List.getD_eq_getElem?_getD,List.getElem?_eq_getElem h];rfl
abbrev ints (xs : List Int) : List AV:=xs.map (.int .i64)
theorem lowI {n : Nat} (xs : List Int) : lowL n (ints xs) = true:=yr (fun _=>rfl) xs
theorem wideI (xs : List Int) : wide 1 (ints xs) = true:=wt (f:=.int .i64) (n:=1) (fun _=>rfl) (fun _=>rfl) xs
end GA
namespace GA
open Go
end GA
namespace GA
open Go
theorem XArr.pim0 {c : AV} {cs : List AV} {m w : Nat} {k : AV -> Prop} (h : k (.pim (c :: cs))) : XArr (.pim (c :: cs)) 0 (m + 1) w k:=⟨by omega,by omega,by show k (.pim (List.drop (0 * w) _));rw [Nat.zero_mul];exact h⟩
theorem XArr.pim1 {c d : AV} {cs : List AV} {m : Nat} {k : AV -> Prop} (h : k (.pim (d :: cs))) : XArr (.pim (c :: d :: cs)) 1 (m + 2) 1 k:=⟨by omega,by omega,h⟩
end GA
end
section
namespace GA
open Go Go.RowKit
section
variable {P : Program} {t : TypeId} {ag : Bool} {n : Nat} {z : Option AV} {q : Option Nat}
def f8 (P : Program) (t : TypeId) : Nat -> List (Nat × Bool × Nat) -> Prop
 | _,[]=>True
 | i,x :: l=>fldK P t i = some x /\ f8 P t (i + 1) l
theorem f8.get : ∀ {fs : List (Nat × Bool × Nat)} {j i : Nat} {x : Nat × Bool × Nat},f8 P t j fs -> lget fs i = some x -> fldK P t (j + i) = some x
 | _ :: _,j,0,x,h,e=>by cases e;exact h.1
 | _ :: l,j,i + 1,x,h,e=>by
   have:=f8.get (fs:=l) (j:=j + 1) (i:=i) h.2 e
   rwa [show j + 1 + i = j + (i + 1) by omega] at this
def isStT (P : Program) (t : TypeId) : Bool:=match P.underlying t with | some (.struct _)=>true | _=>false
theorem place_st (hu : isStT P t = true) {i : Nat} {x : Nat × Bool × Nat} (h : fldK P t i = some x) : kJ P t i = some (x.1,x.2.2):=by
 unfold isStT at hu;split at hu
 ·rename_i e;unfold kJ;rw [e];simp [h]
 ·cases hu
theorem TeOk.st {fs : List (Nat × Bool × Nat)} (h1 : tyK P t = some (ag,n)) (h2 : sz P t = n) (h3 : ∀ z',z = some z' -> yi P t = some z') (hu : isStT P t = true) (hf : f8 P t 0 fs) (ha : allK P t = true) (hq : ∀ n,q = some n -> wK P t = some n) : TeOk P t ⟨ag,n,z,.st fs,q⟩:=
 ⟨h1,h2,h3,⟨fun i x e=>by have:=hf.get e;rw [Nat.zero_add] at this;exact ⟨this,place_st hu this⟩,ha⟩,hq⟩
theorem TeOk.ar {m : Nat} {el : TypeId} {ag' : Bool} {w : Nat} (h1 : tyK P t = some (ag,n)) (h2 : sz P t = n) (h3 : ∀ z',z = some z' -> yi P t = some z') (hu : P.underlying t = some (.array m el)) (hf : arK P t = some (m,ag',w)) (ha : allK P t = true) (hq : ∀ n,q = some n -> wK P t = some n) : TeOk P t ⟨ag,n,z,.ar m ag' w,q⟩:=
 ⟨h1,h2,h3,⟨hf,ha,fun i=>by unfold kJ;rw [hu];simp [hf]⟩,hq⟩
theorem qsome {n n' : Nat} (h : wK P t = some n) : some n = some n' -> wK P t = some n':=fun e=>e ▸ h
theorem qnone {n' : Nat} : none = some n' -> wK P t = some n':=nofun
theorem zsome {z z' : AV} (h : yi P t = some z) : some z = some z' -> yi P t = some z':=fun e=>e ▸ h
theorem znone {z' : AV} : none = some z' -> yi P t = some z':=nofun
end
end GA
end
section
namespace GA
open Go Go.Proofs
set_option maxRecDepth 100000
@[irreducible] def rep (n : Nat) (x : AV) : List AV:=List.replicate n x
theorem rep_eq (n : Nat) (x : AV) : rep n x = List.replicate n x:=by unfold rep;rfl
section
variable {P : Program} {t n : Nat} {ag : Bool} {z : AV}
theorem TeOk.c (h1 : tyK P t = some (ag,n):=by kernel_rfl) (h2 : sz P t = n:=by kernel_rfl) (h3 : yi P t = some z:=by kernel_rfl) : TeOk P t ⟨ag,n,some z,.oth,none⟩:=⟨h1,h2,fun _=>zsome h3,trivial,fun _=>qnone⟩
theorem TeOk.c0 (h1 : tyK P t = some (ag,n):=by kernel_rfl) (h2 : sz P t = n:=by kernel_rfl) : TeOk P t ⟨ag,n,none,.oth,none⟩:=⟨h1,h2,fun _=>znone,trivial,fun _=>qnone⟩
theorem TeOk.i {q : IntKind} (h1 : tyK P t = some (ag,n):=by kernel_rfl) (h2 : sz P t = n:=by kernel_rfl) (h3 : yi P t = some z:=by kernel_rfl) (h4 : P.underlying t = some (.int q):=by kernel_rfl) : TeOk P t ⟨ag,n,some z,.int q,none⟩:=⟨h1,h2,fun _=>zsome h3,h4,fun _=>qnone⟩
theorem TeOk.bo (h1 : tyK P t = some (ag,n):=by kernel_rfl) (h2 : sz P t = n:=by kernel_rfl) (h3 : yi P t = some z:=by kernel_rfl) (h4 : v7 P t:=by (unfold v7;kernel_rfl)) : TeOk P t ⟨ag,n,some z,.bool,none⟩:=⟨h1,h2,fun _=>zsome h3,h4,fun _=>qnone⟩
theorem TeOk.s (e : TypeId) {el w b : Nat} {ze : AV} (h1 : tyK P t = some (ag,n):=by kernel_rfl) (h2 : sz P t = n:=by kernel_rfl) (h3 : yi P t = some z:=by kernel_rfl) (h4 : slE P t = some (el,w,b):=by kernel_rfl) (h5 : slK P t = some w:=by kernel_rfl) (h6 : P.underlying t = some (.slice e):=by kernel_rfl) (h7 : yi P el = some ze:=by kernel_rfl) : TeOk P t ⟨ag,n,some z,.sl el w b ze,none⟩:=⟨h1,h2,fun _=>zsome h3,⟨h4,h5,⟨e,h6⟩,h7⟩,fun _=>qnone⟩
theorem TeOk.m {ze : AV} (h1 : tyK P t = some (ag,n):=by kernel_rfl) (h2 : sz P t = n:=by kernel_rfl) (h3 : yi P t = some z:=by kernel_rfl) (h4 : mapT P t = some ze:=by kernel_rfl) : TeOk P t ⟨ag,n,some z,.mp ze,none⟩:=⟨h1,h2,fun _=>zsome h3,h4,fun _=>qnone⟩
theorem TeOk.m2 {ze : AV} (h1 : tyK P t = some (ag,n):=by kernel_rfl) (h2 : sz P t = n:=by kernel_rfl) (h3 : yi P t = some z:=by kernel_rfl) (h4 : zaQ P t = some ze:=by kernel_rfl) : TeOk P t ⟨ag,n,some z,.mp2 ze,none⟩:=⟨h1,h2,fun _=>zsome h3,h4,fun _=>qnone⟩
theorem TeOk.a (el : TypeId) {m w : Nat} {ag' : Bool} (h1 : tyK P t = some (ag,n):=by kernel_rfl) (h2 : sz P t = n:=by kernel_rfl) (h3 : yi P t = some z:=by kernel_rfl) (h4 : P.underlying t = some (.array m el):=by kernel_rfl) (h5 : arK P t = some (m,ag',w):=by kernel_rfl) (h6 : allK P t = true:=by kernel_rfl) : TeOk P t ⟨ag,n,some z,.ar m ag' w,none⟩:=.ar h1 h2 (fun _=>zsome h3) h4 h5 h6 fun _=>qnone
theorem TeOk.aq (el : TypeId) {m w q : Nat} {ag' : Bool} (h1 : tyK P t = some (ag,n):=by kernel_rfl) (h2 : sz P t = n:=by kernel_rfl) (h3 : yi P t = some z:=by kernel_rfl) (h4 : P.underlying t = some (.array m el):=by kernel_rfl) (h5 : arK P t = some (m,ag',w):=by kernel_rfl) (h6 : allK P t = true:=by kernel_rfl) (h7 : wK P t = some q:=by kernel_rfl) : TeOk P t ⟨ag,n,some z,.ar m ag' w,some q⟩:=.ar h1 h2 (fun _=>zsome h3) h4 h5 h6 fun _=>qsome h7
theorem TeOk.u {fs : List (Nat × Bool × Nat)} (h1 : tyK P t = some (ag,n):=by kernel_rfl) (h2 : sz P t = n:=by kernel_rfl) (h3 : yi P t = some z:=by kernel_rfl) (h4 : isStT P t = true:=by kernel_rfl) (h5 : f8 P t 0 fs:=by (repeat' first|exact trivial|refine And.intro ?_ ?_ | kernel_rfl)) (h6 : allK P t = true:=by kernel_rfl) : TeOk P t ⟨ag,n,some z,.st fs,none⟩:=.st h1 h2 (fun _=>zsome h3) h4 h5 h6 fun _=>qnone
theorem TeOk.uq {fs : List (Nat × Bool × Nat)} {q : Nat} (h1 : tyK P t = some (ag,n):=by kernel_rfl) (h2 : sz P t = n:=by kernel_rfl) (h3 : yi P t = some z:=by kernel_rfl) (h4 : isStT P t = true:=by kernel_rfl) (h5 : f8 P t 0 fs:=by (repeat' first|exact trivial|refine And.intro ?_ ?_ | kernel_rfl)) (h6 : allK P t = true:=by kernel_rfl) (h7 : wK P t = some q:=by kernel_rfl) : TeOk P t ⟨ag,n,some z,.st fs,some q⟩:=.st h1 h2 (fun _=>zsome h3) h4 h5 h6 fun _=>qsome h7
end
def te1 : TE:=⟨false,1,some (.nilf),.oth,none⟩
theorem te1_ok : TeOk Tryz.prog 1 te1:=.c
def te2 : TE:=⟨false,1,some (.int .i64 0),.int .i64,none⟩
theorem te2_ok : TeOk Tryz.prog 2 te2:=.i
def te3 : TE:=⟨false,1,some (.int .i64 0),.int .i64,none⟩
theorem te3_ok : TeOk Tryz.prog 3 te3:=.i
def te4 : TE:=⟨false,1,some (.bool false),.bool,none⟩
theorem te4_ok : TeOk Tryz.prog 4 te4:=.bo
def te5 : TE:=⟨false,1,some (.int .u8 0),.int .u8,none⟩
theorem te5_ok : TeOk Tryz.prog 5 te5:=.i
def te12 : TE:=⟨false,1,some (.int .u64 0),.int .u64,none⟩
theorem te12_ok : TeOk Tryz.prog 12 te12:=.i
def te22 : TE:=⟨false,1,some (.sl true []),.sl 3 1 8 (.int .i64 0),none⟩
theorem te22_ok : TeOk Tryz.prog 22 te22:=.s 3
def te23 : TE:=⟨false,1,some (.sl true []),.sl 22 1 24 (.sl true []),none⟩
theorem te23_ok : TeOk Tryz.prog 23 te23:=.s 22
def te24 : TE:=⟨false,1,some (.sl true []),.sl 40 3 24 (.agg [.int .i64 0,.int .i64 0,.int .i64 0]),none⟩
theorem te24_ok : TeOk Tryz.prog 24 te24:=.s 40
def te25 : TE:=⟨false,1,some (.sl true []),.sl 46 1 24 (.agg [.sl true []]),none⟩
theorem te25_ok : TeOk Tryz.prog 25 te25:=.s 46
def te26 : TE:=⟨true,7,some (.agg [.int .i64 0,.int .i64 0,.int .i64 0,.int .i64 0,.sl true [],.sl true [],.sl true []]),.st [(0,false,1),(1,false,1),(2,false,1),(3,false,1),(4,false,1),(5,false,1),(6,false,1)],none⟩
theorem te26_ok : TeOk Tryz.prog 26 te26:=.u
def te27 : TE:=⟨true,7,some (.agg [.int .i64 0,.int .i64 0,.int .i64 0,.int .i64 0,.sl true [],.sl true [],.sl true []]),.st [(0,false,1),(1,false,1),(2,false,1),(3,false,1),(4,false,1),(5,false,1),(6,false,1)],none⟩
theorem te27_ok : TeOk Tryz.prog 27 te27:=.u
def te29 : TE:=⟨true,3,some (.agg [.int .i64 0,.int .i64 0,.int .i64 0]),.st [(0,false,1),(1,false,1),(2,false,1)],some 3⟩
theorem te29_ok : TeOk Tryz.prog 29 te29:=.uq
def te30 : TE:=⟨true,3,some (.agg [.int .i64 0,.int .i64 0,.int .i64 0]),.st [(0,false,1),(1,false,1),(2,false,1)],some 3⟩
theorem te30_ok : TeOk Tryz.prog 30 te30:=.uq
def te31 : TE:=⟨true,2,some (.agg [.int .i64 0,.int .i64 0]),.st [(0,false,1),(1,false,1)],some 2⟩
theorem te31_ok : TeOk Tryz.prog 31 te31:=.uq
def te32 : TE:=⟨true,2,some (.agg [.int .i64 0,.int .i64 0]),.st [(0,false,1),(1,false,1)],some 2⟩
theorem te32_ok : TeOk Tryz.prog 32 te32:=.uq
def te33 : TE:=⟨false,1,some (.sl true []),.sl 32 2 16 (.agg [.int .i64 0,.int .i64 0]),none⟩
theorem te33_ok : TeOk Tryz.prog 33 te33:=.s 32
def te34 : TE:=⟨false,1,some (.sl true []),.sl 23 1 24 (.sl true []),none⟩
theorem te34_ok : TeOk Tryz.prog 34 te34:=.s 23
def te35 : TE:=⟨false,1,some (.sl true []),.sl 23 1 24 (.sl true []),none⟩
theorem te35_ok : TeOk Tryz.prog 35 te35:=.s 23
def te36 : TE:=⟨false,1,some (.int .i64 0),.int .i64,none⟩
theorem te36_ok : TeOk Tryz.prog 36 te36:=.i
def te39 : TE:=⟨false,1,some (.nilp),.oth,none⟩
theorem te39_ok : TeOk Tryz.prog 39 te39:=.c
def te40 : TE:=⟨true,3,some (.agg [.int .i64 0,.int .i64 0,.int .i64 0]),.ar 3 false 1,some 3⟩
theorem te40_ok : TeOk Tryz.prog 40 te40:=.aq 3
def te41 : TE:=⟨true,2,some (.agg [.int .i64 0,.int .i64 0]),.st [(0,false,1),(1,false,1)],some 2⟩
theorem te41_ok : TeOk Tryz.prog 41 te41:=.uq
def te42 : TE:=⟨true,2,some (.agg [.int .i64 0,.int .i64 0]),.st [(0,false,1),(1,false,1)],some 2⟩
theorem te42_ok : TeOk Tryz.prog 42 te42:=.uq
def te43 : TE:=⟨false,1,some (.sl true []),.sl 42 2 16 (.agg [.int .i64 0,.int .i64 0]),none⟩
theorem te43_ok : TeOk Tryz.prog 43 te43:=.s 42
def te44 : TE:=⟨false,1,some (.sl true []),.sl 43 1 24 (.sl true []),none⟩
theorem te44_ok : TeOk Tryz.prog 44 te44:=.s 43
def te45 : TE:=⟨true,1,some (.agg [.sl true []]),.st [(0,false,1)],none⟩
theorem te45_ok : TeOk Tryz.prog 45 te45:=.u
def te46 : TE:=⟨true,1,some (.agg [.sl true []]),.st [(0,false,1)],none⟩
theorem te46_ok : TeOk Tryz.prog 46 te46:=.u
def te47 : TE:=⟨false,1,some (.sl true []),.sl 39 1 8 (.nilp),none⟩
theorem te47_ok : TeOk Tryz.prog 47 te47:=.s 39
def te85 : TE:=⟨false,1,some (.sl true []),.sl 5 1 1 (.int .u8 0),none⟩
theorem te85_ok : TeOk Tryz.prog 85 te85:=.s 5
def te91 : TE:=⟨false,1,some (.nilp),.oth,none⟩
theorem te91_ok : TeOk Tryz.prog 91 te91:=.c
def te118 : TE:=⟨false,1,some (.sl true []),.sl 330 6 48 (.agg [.int .i64 0,.int .i64 0,.int .i64 0,.int .i64 0,.int .i64 0,.int .i64 0]),none⟩
theorem te118_ok : TeOk Tryz.prog 118 te118:=.s 330
def te119 : TE:=⟨false,1,some (.sl true []),.sl 473 3 24 (.agg [.int .i64 0,.int .i64 0,.int .i64 0]),none⟩
theorem te119_ok : TeOk Tryz.prog 119 te119:=.s 473
def te120 : TE:=⟨true,5,some (.agg [.int .i64 0,.int .i64 0,.int .i64 0,.sl true [],.sl true []]),.st [(0,false,1),(1,false,1),(2,false,1),(3,false,1),(4,false,1)],none⟩
theorem te120_ok : TeOk Tryz.prog 120 te120:=.u
def te121 : TE:=⟨true,5,some (.agg [.int .i64 0,.int .i64 0,.int .i64 0,.sl true [],.sl true []]),.st [(0,false,1),(1,false,1),(2,false,1),(3,false,1),(4,false,1)],none⟩
theorem te121_ok : TeOk Tryz.prog 121 te121:=.u
def te122 : TE:=⟨false,1,some (.sl true []),.sl 332 2 16 (.agg [.int .i64 0,.int .i64 0]),none⟩
theorem te122_ok : TeOk Tryz.prog 122 te122:=.s 332
def te145 : TE:=⟨false,1,some (.nilp),.oth,none⟩
theorem te145_ok : TeOk Tryz.prog 145 te145:=.c
def te148 : TE:=⟨false,1,some (.nilp),.oth,none⟩
theorem te148_ok : TeOk Tryz.prog 148 te148:=.c
def te151 : TE:=⟨true,16,some (.agg [.int .i64 0,.int .i64 0,.int .i64 0,.int .i64 0,.int .i64 0,.int .i64 0,.int .i64 0,.int .i64 0,.int .i64 0,.int .i64 0,.int .i64 0,.int .i64 0,.int .i64 0,.int .i64 0,.int .i64 0,.int .i64 0]),.ar 16 false 1,some 16⟩
theorem te151_ok : TeOk Tryz.prog 151 te151:=.aq 3
def te152 : TE:=⟨true,976,some (.agg (rep 976 (.int .i64 0))),.ar 61 true 16,some 976⟩
theorem te152_ok : TeOk Tryz.prog 152 te152:=.aq 151
def te156 : TE:=⟨false,1,some (.sl true []),.sl 44 1 24 (.sl true []),none⟩
theorem te156_ok : TeOk Tryz.prog 156 te156:=.s 44
def te157 : TE:=⟨true,7,some (.agg [.int .i64 0,.int .i64 0,.int .i64 0,.int .i64 0,.sl true [],.sl true [],.sl true []]),.st [(0,false,1),(1,false,1),(2,false,1),(3,false,1),(4,false,1),(5,false,1),(6,false,1)],none⟩
theorem te157_ok : TeOk Tryz.prog 157 te157:=.u
def te158 : TE:=⟨true,7,some (.agg [.int .i64 0,.int .i64 0,.int .i64 0,.int .i64 0,.sl true [],.sl true [],.sl true []]),.st [(0,false,1),(1,false,1),(2,false,1),(3,false,1),(4,false,1),(5,false,1),(6,false,1)],none⟩
theorem te158_ok : TeOk Tryz.prog 158 te158:=.u
def te167 : TE:=⟨true,3,some (.agg [.int .i64 0,.int .i64 0,.int .i64 0]),.st [(0,false,1),(1,false,1),(2,false,1)],some 3⟩
theorem te167_ok : TeOk Tryz.prog 167 te167:=.uq
def te172 : TE:=⟨false,1,some (.nilf),.oth,none⟩
theorem te172_ok : TeOk Tryz.prog 172 te172:=.c
def te176 : TE:=⟨false,1,some (.sl true []),.sl 30 3 24 (.agg [.int .i64 0,.int .i64 0,.int .i64 0]),none⟩
theorem te176_ok : TeOk Tryz.prog 176 te176:=.s 30
def te179 : TE:=⟨false,1,some (.sl true []),.sl 167 3 24 (.agg [.int .i64 0,.int .i64 0,.int .i64 0]),none⟩
theorem te179_ok : TeOk Tryz.prog 179 te179:=.s 167
def te181 : TE:=⟨true,2,some (.agg [.int .i64 0,.int .i64 0]),.st [(0,false,1),(1,false,1)],some 2⟩
theorem te181_ok : TeOk Tryz.prog 181 te181:=.uq
def te183 : TE:=⟨false,1,some (.sl true []),.sl 181 2 16 (.agg [.int .i64 0,.int .i64 0]),none⟩
theorem te183_ok : TeOk Tryz.prog 183 te183:=.s 181
def te210 : TE:=⟨false,1,some (.nilf),.oth,none⟩
theorem te210_ok : TeOk Tryz.prog 210 te210:=.c
def te211 : TE:=⟨false,1,some (.nilf),.oth,none⟩
theorem te211_ok : TeOk Tryz.prog 211 te211:=.c
def te212 : TE:=⟨false,1,some (.nilf),.oth,none⟩
theorem te212_ok : TeOk Tryz.prog 212 te212:=.c
def te217 : TE:=⟨false,1,some (.nilf),.oth,none⟩
theorem te217_ok : TeOk Tryz.prog 217 te217:=.c
def te220 : TE:=⟨false,1,some (.nilf),.oth,none⟩
theorem te220_ok : TeOk Tryz.prog 220 te220:=.c
def te221 : TE:=⟨false,1,some (.nilf),.oth,none⟩
theorem te221_ok : TeOk Tryz.prog 221 te221:=.c
def te268 : TE:=⟨false,1,some (.sl true []),.sl 4 1 1 (.bool false),none⟩
theorem te268_ok : TeOk Tryz.prog 268 te268:=.s 4
def te295 : TE:=⟨false,1,some (.int .u32 0),.int .u32,none⟩
theorem te295_ok : TeOk Tryz.prog 295 te295:=.i
def te296 : TE:=⟨true,3,some (.agg [.sl true [],.int .i64 0,.int .u32 0]),.st [(0,false,1),(1,false,1),(2,false,1)],none⟩
theorem te296_ok : TeOk Tryz.prog 296 te296:=.u
def te297 : TE:=⟨true,3,some (.agg [.sl true [],.int .i64 0,.int .u32 0]),.st [(0,false,1),(1,false,1),(2,false,1)],none⟩
theorem te297_ok : TeOk Tryz.prog 297 te297:=.u
def te329 : TE:=⟨true,6,some (.agg [.int .i64 0,.int .i64 0,.int .i64 0,.int .i64 0,.int .i64 0,.int .i64 0]),.st [(0,false,1),(1,false,1),(2,true,2),(4,true,2)],some 6⟩
theorem te329_ok : TeOk Tryz.prog 329 te329:=.uq
def te330 : TE:=⟨true,6,some (.agg [.int .i64 0,.int .i64 0,.int .i64 0,.int .i64 0,.int .i64 0,.int .i64 0]),.st [(0,false,1),(1,false,1),(2,true,2),(4,true,2)],some 6⟩
theorem te330_ok : TeOk Tryz.prog 330 te330:=.uq
def te331 : TE:=⟨true,2,some (.agg [.int .i64 0,.int .i64 0]),.st [(0,false,1),(1,false,1)],some 2⟩
theorem te331_ok : TeOk Tryz.prog 331 te331:=.uq
def te332 : TE:=⟨true,2,some (.agg [.int .i64 0,.int .i64 0]),.st [(0,false,1),(1,false,1)],some 2⟩
theorem te332_ok : TeOk Tryz.prog 332 te332:=.uq
def te334 : TE:=⟨false,1,some (.nilp),.oth,none⟩
theorem te334_ok : TeOk Tryz.prog 334 te334:=.c
def te337 : TE:=⟨false,1,some (.sl true []),.sl 338 121 968 (.agg (List.replicate 121 (.int .i64 0))),none⟩
theorem te337_ok : TeOk Tryz.prog 337 te337:=.s 338
def te338 : TE:=⟨true,121,some (.agg (List.replicate 121 (.int .i64 0))),.ar 121 false 1,some 121⟩
theorem te338_ok : TeOk Tryz.prog 338 te338:=.aq 3
def te340 : TE:=⟨false,1,some (.nilm),.mp (.sl true []),none⟩
theorem te340_ok : TeOk Tryz.prog 340 te340:=.m
def te341 : TE:=⟨true,6,some (.agg [.int .i64 0,.int .i64 0,.int .i64 0,.sl true [],.sl true [],.nilm]),.st [(0,true,5),(5,false,1)],none⟩
theorem te341_ok : TeOk Tryz.prog 341 te341:=.u
def te342 : TE:=⟨true,6,some (.agg [.int .i64 0,.int .i64 0,.int .i64 0,.sl true [],.sl true [],.nilm]),.st [(0,true,5),(5,false,1)],none⟩
theorem te342_ok : TeOk Tryz.prog 342 te342:=.u
def te359 : TE:=⟨false,1,some (.nilm),.mp (.sl true []),none⟩
theorem te359_ok : TeOk Tryz.prog 359 te359:=.m
def te360 : TE:=⟨true,61,some (.agg (List.replicate 61 (.int .i64 0))),.ar 61 false 1,some 61⟩
theorem te360_ok : TeOk Tryz.prog 360 te360:=.aq 3
def te361 : TE:=⟨true,305,some (.agg (List.replicate 305 (.int .i64 0))),.ar 5 true 61,some 305⟩
theorem te361_ok : TeOk Tryz.prog 361 te361:=.aq 360
def te362 : TE:=⟨true,305,some (.agg (List.replicate 305 (.int .i64 0))),.ar 5 true 61,some 305⟩
theorem te362_ok : TeOk Tryz.prog 362 te362:=.aq 360
def te363 : TE:=⟨true,313,some (.agg ([.int .i64 0,.int .i64 0,.int .i64 0,.int .i64 0,.sl true [],.sl true [],.sl true []] ++ List.replicate 305 (.int .i64 0) ++ [.nilm])),.st [(0,true,7),(7,true,305),(312,false,1)],none⟩
theorem te363_ok : TeOk Tryz.prog 363 te363:=.u
def te364 : TE:=⟨true,313,some (.agg ([.int .i64 0,.int .i64 0,.int .i64 0,.int .i64 0,.sl true [],.sl true [],.sl true []] ++ List.replicate 305 (.int .i64 0) ++ [.nilm])),.st [(0,true,7),(7,true,305),(312,false,1)],none⟩
theorem te364_ok : TeOk Tryz.prog 364 te364:=.u
def te365 : TE:=⟨true,4880,some (.agg (rep 4880 (.int .i64 0))),.ar 5 true 976,none⟩
theorem te365_ok : TeOk Tryz.prog 365 te365:=.a 152
def te366 : TE:=⟨true,4880,some (.agg (rep 4880 (.int .i64 0))),.ar 5 true 976,none⟩
theorem te366_ok : TeOk Tryz.prog 366 te366:=.a 152
def te367 : TE:=⟨true,16,some (.agg [.bool false,.bool false,.bool false,.bool false,.bool false,.bool false,.bool false,.bool false,.bool false,.bool false,.bool false,.bool false,.bool false,.bool false,.bool false,.bool false]),.ar 16 false 1,some 1048592⟩
theorem te367_ok : TeOk Tryz.prog 367 te367:=.aq 4
def te368 : TE:=⟨true,976,some (.agg (rep 976 (.bool false))),.ar 61 true 16,none⟩
theorem te368_ok : TeOk Tryz.prog 368 te368:=.a 367
def te369 : TE:=⟨true,4880,some (.agg (rep 4880 (.bool false))),.ar 5 true 976,none⟩
theorem te369_ok : TeOk Tryz.prog 369 te369:=.a 368
def te375 : TE:=⟨false,1,some (.nilf),.oth,none⟩
theorem te375_ok : TeOk Tryz.prog 375 te375:=.c
def te389 : TE:=⟨false,1,some (.nilf),.oth,none⟩
theorem te389_ok : TeOk Tryz.prog 389 te389:=.c
def te390 : TE:=⟨true,1,some (.agg [.nilf]),.st [(0,false,1)],none⟩
theorem te390_ok : TeOk Tryz.prog 390 te390:=.u
def te391 : TE:=⟨true,1,some (.agg [.nilf]),.st [(0,false,1)],none⟩
theorem te391_ok : TeOk Tryz.prog 391 te391:=.u
def te395 : TE:=⟨false,1,some (.nilf),.oth,none⟩
theorem te395_ok : TeOk Tryz.prog 395 te395:=.c
def te397 : TE:=⟨false,1,some (.nilf),.oth,none⟩
theorem te397_ok : TeOk Tryz.prog 397 te397:=.c
def te455 : TE:=⟨false,1,some (.nilf),.oth,none⟩
theorem te455_ok : TeOk Tryz.prog 455 te455:=.c
def te459 : TE:=⟨false,1,some (.nilf),.oth,none⟩
theorem te459_ok : TeOk Tryz.prog 459 te459:=.c
def te472 : TE:=⟨true,3,some (.agg [.int .i64 0,.int .i64 0,.int .i64 0]),.st [(0,false,1),(1,true,2)],some 3⟩
theorem te472_ok : TeOk Tryz.prog 472 te472:=.uq
def te473 : TE:=⟨true,3,some (.agg [.int .i64 0,.int .i64 0,.int .i64 0]),.st [(0,false,1),(1,true,2)],some 3⟩
theorem te473_ok : TeOk Tryz.prog 473 te473:=.uq
def te486 : TE:=⟨false,1,some (.nilf),.oth,none⟩
theorem te486_ok : TeOk Tryz.prog 486 te486:=.c
def te489 : TE:=⟨false,1,some (.nilf),.oth,none⟩
theorem te489_ok : TeOk Tryz.prog 489 te489:=.c
def tab : Tab:=[none,some te1,some te2,some te3,some te4,some te5,none,none,none,none,none,none,some te12,none,none,none,none,none,none,none,none,none,some te22,some te23,some te24,some te25,some te26,some te27,none,some te29,some te30,some te31,some te32,some te33,some te34,some te35,some te36,none,none,some te39,some te40,some te41,some te42,some te43,some te44,some te45,some te46,some te47,none,none,none,none,none,none,none,none,none,none,none,none,none,none,none,none,none,none,none,none,none,none,none,none,none,none,none,none,none,none,none,none,none,none,none,none,none,some te85,none,none,none,none,none,some te91,none,none,none,none,none,none,none,none,none,none,none,none,none,none,none,none,none,none,none,none,none,none,none,none,none,none,some te118,some te119,some te120,some te121,some te122,none,none,none,none,none,none,none,none,none,none,none,none,none,none,none,none,none,none,none,none,none,none,some te145,none,none,some te148,none,none,some te151,some te152,none,none,none,some te156,some te157,some te158,none,none,none,none,none,none,none,none,some te167,none,none,none,none,some te172,none,none,none,some te176,none,none,some te179,none,some te181,none,some te183,none,none,none,none,none,none,none,none,none,none,none,none,none,none,none,none,none,none,none,none,none,none,none,none,none,none,some te210,some te211,some te212,none,none,none,none,some te217,none,none,some te220,some te221,none,none,none,none,none,none,none,none,none,none,none,none,none,none,none,none,none,none,none,none,none,none,none,none,none,none,none,none,none,none,none,none,none,none,none,none,none,none,none,none,none,none,none,none,none,none,some te268,none,none,none,none,none,none,none,none,none,none,none,none,none,none,none,none,none,none,none,none,none,none,none,none,none,none,some te295,some te296,some te297,none,none,none,none,none,none,none,none,none,none,none,none,none,none,none,none,none,none,none,none,none,none,none,none,none,none,none,none,none,none,none,some te329,some te330,some te331,some te332,none,some te334,none,none,some te337,some te338,none,some te340,some te341,some te342,none,none,none,none,none,none,none,none,none,none,none,none,none,none,none,none,some te359,some te360,some te361,some te362,some te363,some te364,some te365,some te366,some te367,some te368,some te369,none,none,none,none,none,some te375,none,none,none,none,none,none,none,none,none,none,none,none,none,some te389,some te390,some te391,none,none,none,some te395,none,some te397,none,none,none,none,none,none,none,none,none,none,none,none,none,none,none,none,none,none,none,none,none,none,none,none,none,none,none,none,none,none,none,none,none,none,none,none,none,none,none,none,none,none,none,none,none,none,none,none,none,none,none,none,none,none,none,none,none,some te455,none,none,none,some te459,none,none,none,none,none,none,none,none,none,none,none,none,some te472,some te473,none,none,none,none,none,none,none,none,none,none,none,none,some te486,none,none,some te489]
theorem za : zH Tryz.prog tab:=⟨te1_ok,te2_ok,te3_ok,te4_ok,te5_ok,te12_ok,te22_ok,te23_ok,te24_ok,te25_ok,te26_ok,te27_ok,te29_ok,te30_ok,te31_ok,te32_ok,te33_ok,te34_ok,te35_ok,te36_ok,te39_ok,te40_ok,te41_ok,te42_ok,te43_ok,te44_ok,te45_ok,te46_ok,te47_ok,te85_ok,te91_ok,te118_ok,te119_ok,te120_ok,te121_ok,te122_ok,te145_ok,te148_ok,te151_ok,te152_ok,te156_ok,te157_ok,te158_ok,te167_ok,te172_ok,te176_ok,te179_ok,te181_ok,te183_ok,te210_ok,te211_ok,te212_ok,te217_ok,te220_ok,te221_ok,te268_ok,te295_ok,te296_ok,te297_ok,te329_ok,te330_ok,te331_ok,te332_ok,te334_ok,te337_ok,te338_ok,te340_ok,te341_ok,te342_ok,te359_ok,te360_ok,te361_ok,te362_ok,te363_ok,te364_ok,te365_ok,te366_ok,te367_ok,te368_ok,te369_ok,te375_ok,te389_ok,te390_ok,te391_ok,te395_ok,te397_ok,te455_ok,te459_ok,te472_ok,te473_ok,te486_ok,te489_ok,trivial⟩
end GA
end
section
namespace GA
open Go Go.RowKit
def xPend (P : Program) (T : Tab) (N : Nat) (own : List Nat) (Q : Post) (D : List Nat) (σ : St) (H : List Blk) (pend : Option Code) : Prop:=
 match pend with
 | none=>Q .normal D σ H
 | some c=>XRun P T N none own c Q D σ H
def zaZ (P : Program) (T : Tab) (N : Nat) (own : List Nat) (Q : Post) (D : List Nat) (σ : St) (i : Nat) (H : List Blk) : Prop:=
 match lget H i with
 | some (.lp st pend _ _ _ _ _ _)=>match st with
   | .busy=>False
   | _=>hset H i .dead fun H'=>xPend P T N own Q D σ H' pend
 | _=>False
def xPuts : List Nat -> List AV -> St -> Option St
 | [],[],σ=>some σ
 | t :: ts,r :: rs,σ=>xPuts ts rs (updX σ t r)
 | _,_,_=>none
def xRound (i : Nat) (K : AV -> List Blk -> Prop) : Post:=fun e _ _ H =>
 match lget H i with
 | some (.lp _ _ f tm ps x y n)=>match e with
   | .normal=>hset H i (.lp .ready none f tm ps x y n) fun H'=>K (.bool true) H'
   | .ret=>hset H i (.lp .done (some .ret) f tm ps x y n) fun H'=>K (.bool false) H'
   | .exit id=>hset H i (.lp .done (some (.exit id)) f tm ps x y n) fun H'=>K (.bool false) H'
   | _=>False
 | _=>False
def xBegin (P : Program) (T : Tab) (own : List Nat) (i : Nat) (K : AV -> List Blk -> Prop) (ρ : Option Nat) : Post:=fun e D σ H =>
 match e,lget H i with
 | .normal,some (.lp .ready pend f tm ps x y n)=>hset H i (.lp .busy pend f tm ps x y n) fun H'=>XRun P T n ρ own y (xRound i K) D σ H'
 | _,_=>False
section
variable {P : Program} {T : Tab} {N : Nat} {ρ : Option Nat} {own : List Nat} {E : Env} {h : Nat -> Option Obj} {β : Nat -> Value} {H : List Blk} {w : World} {σ : St} {a : Act} {D : List Nat}
theorem fx : ∀ {ts : List Nat} {rs : List AV} {vs : List Value} {σ σ' : St} {tmps : Array Value},xPuts ts rs σ = some σ' -> RepL P h β H rs vs -> (∀ t ∈ ts,t < tmps.size) ->
  (∀ t r,σ t = some r -> ∃ v,tmps[t]? = some v /\ Rep P h β H r v) -> vs.length = ts.length /\
  ∀ t r,σ' t = some r -> ∃ v,((ts.zip vs).foldl (fun (tmps : Array Value) (x : Nat × Value)=>tmps.setIfInBounds x.1 x.2) tmps)[t]? = some v /\ Rep P h β H r v
 | [],[],vs,σ,σ',tmps,e,hr,_,F=>by
   cases e
   have : vs = []:=List.eq_nil_of_length_eq_zero hr.1
   subst this;exact ⟨rfl,F⟩
 | t :: ts,r :: rs,vs,σ,σ',tmps,e,hr,hb,F=>by
   cases vs with
   | nil=>have:=hr.1;simp at this
   | cons v vs =>
     obtain ⟨v',e1,e2⟩:=hr.2 0 r rfl
     simp at e1;subst e1
     have hr' : RepL P h β H rs vs:=⟨by have:=hr.1;simpa using this,fun j x ex=>by have:=hr.2 (j + 1) x (by simpa using ex);simpa using this⟩
     have F' : ∀ u x,updX σ t r u = some x -> ∃ y,(tmps.setIfInBounds t v)[u]? = some y /\ Rep P h β H x y:=by
      intro u x ex
      rw [kq] at ex;unfold upd at ex
      by_cases hu : u = t
      ·subst hu;simp at ex;subst ex
       exact ⟨v,by simp [hb u (by simp)],e2⟩
      ·simp [hu] at ex
       obtain ⟨y,g1,g2⟩:=F u x ex
       exact ⟨y,by rw [Array.getElem?_setIfInBounds_ne (Ne.symm hu)];exact g1,g2⟩
     obtain ⟨g1,g2⟩:=fx (tmps:=tmps.setIfInBounds t v) (show xPuts ts rs (updX σ t r) = some σ' from e) hr' (fun u hu=>by simpa using hb u (by simp [hu])) F'
     exact ⟨by simp [g1],by simpa using g2⟩
 | [],_ :: _,_,_,_,_,e,_,_,_=>by cases e
 | _ :: _,[],_,_,_,_,e,_,_,_=>by cases e
theorem Walk.range {g : Operand} {ps : Array Tmp} {assign body : Code} {Q : Post} {f : FuncId} {caps : List AV} (ok : zH P T) (tm : List (Nat × AV)) (hg : ev σ g = some (.fn f caps)) (ht : SubX tm σ)
  (x : ∀ fn,zb P f (.yld (H.length + 1) :: caps) (H ++ [.raw (.deferred (some []))] ++ [.lp .ready none fn tm ps assign body N]) fun _ H'=>zaZ P T N own Q (H.length :: D) σ (H.length + 1) H') :
  Walk P N none (.rangeFunc g ps assign body) Q D σ H:=by
 constructor
 intro E h β a w s
 refine wpIn_rangeFunc fun fn _=>?_
 have hf:=s.fits.ev hg
 generalize hv : a.eval g = fval at hf
 cases hf with
 | @fn _ _ vs us hs hc hr =>
   obtain ⟨hent,hcall⟩:=(x fn).o
   let w1:=(w.alloc (.deferred (some []))).alloc (.loop { state:=.ready,pending:=none,fn,tmps:=a.tmps,params:=ps,assign,body,defers:=w.heap.size })
   -- the blocks
   obtain ⟨s1,X1⟩:=s.sr.push (w':=w.alloc (.deferred (some []))) s.sr.env (fun k hk=>Below.heap_alloc _ _ _ hk) (.pointer (some ⟨w.heap.size,0,none⟩)) (.raw (.deferred (some []))) (by intro b hb;simp [anchor] at hb;omega)
    (fun X=>⟨w.heap.size,by simp [upb],heap_alloc_new w _⟩)
   have hsz : (w.alloc (.deferred (some []))).heap.size = w.heap.size + 1:=World.size_alloc _ _
   obtain ⟨s2,X2⟩:=s1.push (w':=w1) s.sr.env (fun k hk=>Below.heap_alloc _ _ _ hk) (.pointer (some ⟨w.heap.size + 1,0,none⟩)) (.lp .ready none fn tm ps assign body N) (by intro b hb;simp [anchor] at hb;omega)
    (fun X=>⟨w.heap.size + 1,w.heap.size,a.tmps,by simp [upb],by rw [<- hsz];exact heap_alloc_new _ _,s.size,fun t r e=>by
     have : σ t = some r:=by
      have : ∀ (l : List (Nat × AV)),SubX l σ -> (t,r) ∈ l -> σ t = some r:=by
       intro l;induction l with
       | nil=>intro _ h;cases h
       | cons p l ih=>intro h1 h2;rcases List.mem_cons.1 h2 with h2 | h2
                      ·subst h2;exact h1.1
                      ·exact ih h1.2 h2
      exact this tm ht e
     obtain ⟨v,e1,e2⟩:=s.fits t r this
     exact ⟨v,e1,X.rep (X1.rep e2)⟩⟩)
   have hl2 : (H ++ [Blk.raw (.deferred (some []))]).length = H.length + 1:=by simp
   rw [hl2] at s2 X2
   have X:=X1.trans X2
   have hlp : (H ++ [Blk.raw (.deferred (some []))] ++ [Blk.lp .ready none fn tm ps assign body N])[H.length + 1]? = some (.lp .ready none fn tm ps assign body N):=by
    rw [List.getElem?_append_right (by simp)];simp
   have hraw : (H ++ [Blk.raw (.deferred (some []))] ++ [Blk.lp .ready none fn tm ps assign body N])[H.length]? = some (.raw (.deferred (some []))):=by
    rw [List.getElem?_append_left (by simp),List.getElem?_append_right (by simp)];simp
   have hy : Rep P h (upb (upb β H.length (.pointer (some ⟨w.heap.size,0,none⟩))) (H.length + 1) (.pointer (some ⟨w.heap.size + 1,0,none⟩))) (H ++ [.raw (.deferred (some []))] ++ [.lp .ready none fn tm ps assign body N]) (.yld (H.length + 1)) (.func (.yield (w.heap.size + 1)) #[] #[]):=
    .yld (.of hlp rfl) fun y _ _=>by simp [upb]
   have hmk : Rep P h (upb (upb β H.length (.pointer (some ⟨w.heap.size,0,none⟩))) (H.length + 1) (.pointer (some ⟨w.heap.size + 1,0,none⟩))) (H ++ [.raw (.deferred (some []))] ++ [.lp .ready none fn tm ps assign body N]) (.yld H.length) (.func (.yield w.heap.size) #[] #[]):=
    .yld (.of hraw rfl) fun y _ _=>by simp [upb]
   have hargs : RepL P h (upb (upb β H.length (.pointer (some ⟨w.heap.size,0,none⟩))) (H.length + 1) (.pointer (some ⟨w.heap.size + 1,0,none⟩))) (H ++ [.raw (.deferred (some []))] ++ [.lp .ready none fn tm ps assign body N]) (.yld (H.length + 1) :: caps) (.func (.yield (w.heap.size + 1)) #[] #[] :: vs.toList):=
    .cons hy ⟨by simpa using hs,fun j y e=>⟨us j,by simpa using hc j y e,X.rep (hr j y e)⟩⟩
   have hres : (resolve a.eval (rangeCall g (w.heap.size + 1)) 0).run P w1 = .ok { target:=.fn (.func f) vs,args:=#[.func (.yield (w.heap.size + 1)) #[] #[]] } w1:=by
    have hcst : ∀ v,a.eval (.const v) = v:=fun _=>rfl
    simp [resolve,hv,Deferred.ofValue,hcst]
   have hinv : (invoke (.fn (.func f) vs) #[.func (.yield (w.heap.size + 1)) #[] #[]]).run P w1 = .ok (.enter f (.func (.yield (w.heap.size + 1)) #[] #[] :: vs.toList).toArray) w1:=by
    have : (#[Value.func (.yield (w.heap.size + 1)) #[] #[]] ++ vs) = (.func (.yield (w.heap.size + 1)) #[] #[] :: vs.toList).toArray:=by apply Array.ext';simp
    simp only [invoke,wC hent,this]
   refine ⟨w.heap.size + 1,_,w1,_,w1,f,_,w1,run_enterLoop_outer fn a.tmps ps assign body,hres,fun _ _=>trivial,hinv,fun h=>by simp at h,?_⟩
   have hc2:=hcall E h _ w1 _ s2 hargs
   refine (show CallsIn (FW none) (0 - 1) P f _ w1 _ from hc2.mono ?_)
   rintro e w' ⟨r,H',h',β',v,rfl,hk,X',s',_⟩
   -- the end
   unfold zaZ at hk
   split at hk
   case h_2=>exact hk.elim
   rename_i st pend f' tm' ps' as' bo' n' hl
   rw [zo] at hl
   have hto:=X'.to _ _ _ hlp hl
   rcases hto with hd | ⟨st2,pend2,he,hβ⟩
   ·cases hd
   ·cases he
    have hβ1 : β' (H.length + 1) = .pointer (some ⟨w.heap.size + 1,0,none⟩):=by rw [hβ];simp [upb]
    obtain ⟨b,dfr,tmps,h1,h2,h3,h4⟩:=s'.blk _ _ hl
    rw [hβ1] at h1;cases h1
    have hnb : st ≠ .busy:=by rintro rfl;exact hk
    have hk2 : hset H' (H.length + 1) .dead fun H'=>xPend P T N own Q (H.length :: D) σ H' pend:=by
     cases st with
     | busy=>exact hk.elim
     | ready=>exact hk
     | done=>exact hk
     | exhausted=>exact hk
    obtain ⟨hlt,hk3⟩:=z8 hk2
    have hbo : blkOf β' H' (H.length + 1) = some (w.heap.size + 1):=by simp only [blkOf,hl,hβ1];rfl
    obtain ⟨s3,X3⟩:=s'.modify (β':=β') (w':=w'.putObj (w.heap.size + 1) (.loop { state:=.exhausted,pending:=pend,fn:=fn,tmps:=tmps,params:=ps,assign:=assign,body:=body,defers:=dfr })) (x':=.dead) hl (fun _ _=>rfl) (.inl rfl) s'.env
     (fun q _ hn=>World.putObj_heap_other (fun e=>hn (by rw [hbo,e]))) (fun b e=>.inl (by rw [hbo];rw [hβ1] at e;exact e)) (fun _=>trivial)
    have Xall:=X.trans (X'.trans X3)
    have hst : jW P E N h' β' (H.length :: D) σ (H'.set (H.length + 1) .dead) { a with defers:=[{ target:=.collected w.heap.size,args:=#[] }] ++ a.defers } (w'.putObj (w.heap.size + 1) (.loop { state:=.exhausted,pending:=pend,fn:=fn,tmps:=tmps,params:=ps,assign:=assign,body:=body,defers:=dfr })):=by
     exact ⟨s3,s.fits.ext Xall,s.size,⟨(s.df.ext Xall).en,.own ((X'.trans X3).rep hmk) (s.df.ext Xall).l⟩⟩
    refine ⟨pend,_,run_endLoop h2 hnb,?_⟩
    cases pend with
    | none=>exact ⟨_,_,_,_,_,hk3,Xall,hst⟩
    | some c=>exact wpIn_mono (XRun.sound ok hk3 E h' β' _ _ hst) fun _ _ _=>Conc.ext Xall
theorem wZ.go {i : Nat} {rs : List AV} {K : AV -> List Blk -> Prop} {pend : Option Code} {f : FuncId} {tm : List (Nat × AV)} {ps : Array Tmp} {assign body : Code} {σ0 : St} (ok : zH P T) (hl : lget H i = some (.lp .ready pend f tm ps assign body N)) (hp : xPuts ps.toList rs (stX tm) = some σ0)
  (hb : ∀ t ∈ ps.toList,t < N) (x : ∀ ρ,XRun P T N ρ own assign (xBegin P T own i K ρ) [] σ0 H) : wZ P i rs H K:=by
 rw [zo] at hl
 refine ⟨(List.getElem?_eq_some_iff.1 hl).1,fun E h β w b vs s hr hβ=>?_⟩
 have hβ:=hβ _ hl rfl
 obtain ⟨b',dfr,tmps,h1,h2,h3,h4⟩:=s.blk _ _ hl
 rw [hβ] at h1;cases h1
 obtain ⟨hlen,F⟩:=fx (tmps:=tmps) hp hr (fun t ht=>by rw [h3];exact hb t ht) (fun t r e=>by
  have : ∀ (l : List (Nat × AV)),stX l t = some r -> (t,r) ∈ l:=by
   intro l;induction l with
   | nil=>intro h;cases h
   | cons p l ih =>
     obtain ⟨u,x⟩:=p
     intro h;simp only [stX,kq,upd] at h
     split at h
     ·rename_i e;cases h;subst e;exact List.mem_cons_self
     ·exact List.mem_cons_of_mem _ (ih h)
  exact h4 t r (this tm e))
 have hzip : ((ps.zip vs.toArray).foldl (fun (tmps : Array Value) (x : Nat × Value)=>tmps.setIfInBounds x.1 x.2) tmps) = ((ps.toList.zip vs).foldl (fun (tmps : Array Value) (x : Nat × Value)=>tmps.setIfInBounds x.1 x.2) tmps):=by
  rw [<- Array.foldl_toList];simp
 refine ⟨f,_,assign,body,run_yield h2 (by simp [hlen]),?_⟩
 refine roundIn_of_wpIn trivial ?_
 have hF : (FW none).inRound b = FW (some b):=rfl
 rw [hF]
 have hsz : ∀ (l : List (Nat × Value)) (tmps : Array Value),(l.foldl (fun (tmps : Array Value) (x : Nat × Value)=>tmps.setIfInBounds x.1 x.2) tmps).size = tmps.size:=by
  intro l;induction l with
  | nil=>intro _;rfl
  | cons p l ih=>intro tmps;simp [ih]
 have st0 : jW P ⟨E.b,E.fr,h⟩ N h β [] σ0 H { tmps:=(ps.zip vs.toArray).foldl (fun (tmps : Array Value) (x : Nat × Value)=>tmps.setIfInBounds x.1 x.2) tmps,defers:=[] } w:=
  ⟨s.en h,fun t r e=>by rw [hzip];exact F t r e,by rw [hzip];exact (hsz _ _).trans h3,⟨fun _ _ e=>e,.nil⟩⟩
 refine wpIn_mono (XRun.sound ok (x (some b)) ⟨E.b,E.fr,h⟩ h β _ w st0) ?_
 rintro e a1 w1 ⟨D1,σ1,H1,h1',β1,q,X1,s1⟩
 have hq : e = .normal /\ ∃ pend' f' tm' ps' x' y' n',lget H1 i = some (.lp .ready pend' f' tm' ps' x' y' n') /\ hset H1 i (.lp .busy pend' f' tm' ps' x' y' n') fun H'=>XRun P T n' (some b) own y' (xRound i K) D1 σ1 H':=by
  unfold xBegin at q;split at q
  ·rename_i hh;exact ⟨rfl,_,_,_,_,_,_,_,hh,q⟩
  ·exact q.elim
 obtain ⟨rfl,pend',f',tm',ps',x',y',n',g1,g2⟩:=hq
 rw [zo] at g1
 have hβ1 : β1 i = β i /\ body = y' /\ N = n':=by
  rcases X1.to _ _ _ hl g1 with hd | ⟨_,_,he,hb1⟩
  ·cases hd
  ·cases he;exact ⟨hb1,rfl,rfl⟩
 obtain ⟨hβ1,rfl,rfl⟩:=hβ1
 rw [hβ] at hβ1
 obtain ⟨b',dfr',tmps',k1,k2,k3,k4⟩:=s1.sr.blk _ _ g1
 rw [hβ1] at k1;cases k1
 obtain ⟨hlt,g3⟩:=z8 g2
 refine ⟨_,run_beginRound k2 rfl,?_⟩
 have hbo : blkOf β1 H1 i = some b:=by simp only [blkOf,g1,hβ1];rfl
 have hbs : b < w1.heap.size:=(Array.getElem?_eq_some_iff.1 k2).1
 obtain ⟨s2,X2⟩:=s1.sr.modify (β':=β1) (w':=w1.putObj b (.loop { state:=.busy,pending:=pend',fn:=f',tmps:=tmps',params:=ps',assign:=x',body:=body,defers:=dfr' })) (x':=.lp .busy pend' f' tm' ps' x' body N) g1 (fun _ _=>rfl) (.inr ⟨_,_,rfl,rfl⟩) s1.sr.env
  (fun q _ hn=>World.putObj_heap_other (fun e=>hn (by rw [hbo,e]))) (fun b e=>.inl (by rw [hbo];rw [hβ1] at e;exact e)) (fun X=>⟨b,dfr',tmps',hβ1,World.putObj_heap_same hbs,k3,fun t r e=>let ⟨v,p1,p2⟩:=k4 t r e;⟨v,p1,X.rep p2⟩⟩)
 refine wpIn_mono (XRun.sound ok g3 ⟨E.b,E.fr,h⟩ _ _ _ _ ⟨s2,s1.fits.ext X2,s1.size,s1.df.ext X2⟩) ?_
 rintro e a3 w3 ⟨D3,σ3,H3,h3',β3,q3,X3,s3⟩
 unfold xRound at q3
 split at q3
 case h_2=>exact q3.elim
 rename_i st4 pend4 f4 tm4 ps4 x4 y4 n4 m1
 rw [zo] at m1
 have hg2 : (H1.set i (.lp .busy pend' f' tm' ps' x' body N))[i]? = some (.lp .busy pend' f' tm' ps' x' body N):=by simp [hlt]
 have hβ3 : β3 i = .pointer (some ⟨b,0,none⟩):=by
  rcases X3.to _ _ _ hg2 m1 with hd | ⟨_,_,he,hb1⟩
  ·cases hd
  ·rw [hb1,hβ1]
 obtain ⟨b',dfr4,tmps4,o1,o2,o3,o4⟩:=s3.sr.blk _ _ m1
 rw [hβ3] at o1;cases o1
 have hbo3 : blkOf β3 H3 i = some b:=by simp only [blkOf,m1,hβ3];rfl
 have hbs3 : b < w3.heap.size:=(Array.getElem?_eq_some_iff.1 o2).1
 have Xto:=X1.trans (X2.trans X3)
 have fin : ∀ (jump : Option Code) (st' : LoopState),st' = (if jump.isNone then .ready else .done) -> (hset H3 i (.lp st' jump f4 tm4 ps4 x4 y4 n4) fun H'=>K (.bool jump.isNone) H') ->
   ∃ v w',(Instr.endRound b jump).run P w3 = .ok v w' /\ Ends P E h β H K (.returned v) w':=by
  intro jump st' hst hk
  subst hst
  obtain ⟨_,hk2⟩:=z8 hk
  obtain ⟨s4,X4⟩:=s3.sr.modify (β':=β3) (w':=w3.putObj b (.loop { state:=(if jump.isNone then .ready else .done),pending:=jump,fn:=f4,tmps:=tmps4,params:=ps4,assign:=x4,body:=y4,defers:=dfr4 })) (x':=.lp (if jump.isNone then .ready else .done) jump f4 tm4 ps4 x4 y4 n4) m1 (fun _ _=>rfl) (.inr ⟨_,_,rfl,rfl⟩) s3.sr.env
   (fun q _ hn=>World.putObj_heap_other (fun e=>hn (by rw [hbo3,e]))) (fun b e=>.inl (by rw [hbo3];rw [hβ3] at e;exact e)) (fun X=>⟨b,dfr4,tmps4,hβ3,World.putObj_heap_same hbs3,o3,fun t r e=>let ⟨v,p1,p2⟩:=o4 t r e;⟨v,p1,X.rep p2⟩⟩)
  refine ⟨_,_,run_endRound jump o2,.bool jump.isNone,_,_,_,_,rfl,hk2,Xto.trans X4,?_,.bool _⟩
  exact s4.unen
 cases e with
 | normal=>exact fin none .ready rfl q3
 | ret=>exact fin (some .ret) .done rfl q3
 | exit id=>exact fin (some (.exit id)) .done rfl q3
 | _=>exact q3.elim
end
end GA
end
section
namespace GA
open Go Go.RowKit
def qL : List Nat -> List Blk -> (List Blk -> Prop) -> Prop
 | [],H,k=>k H
 | i :: D,H,k=>match lget H i with
   | some (.raw (.deferred (some [])))=>hset H i (.raw (.deferred none)) fun H'=>qL D H' k
   | _=>False
def XIn (T : Tab) (res : List ResultVar) (k : AV -> List Blk -> Prop) : Post:=fun e D σ H =>
 match e with
 | .normal | .ret=>qL D H fun H'=>xRes T σ H' res fun rs=>k (pack rs) H'
 | _=>False
def XFm (P : Program) (T : Tab) (res : List ResultVar) (r0 : AV) : Post:=XIn T res fun r H=>XOut P H r r0
section
variable {P : Program} {T : Tab} {N : Nat} {ρ : Option Nat} {own : List Nat} {E : Env} {h : Nat -> Option Obj} {β : Nat -> Value} {H : List Blk} {w : World} {σ : St} {a : Act}
theorem gB {fn : Func} {k : AV -> List Blk -> Prop} {h0 : Nat -> Option Obj} {β0 : Nat -> Value} {H0 : List Blk} (ok : zH P T) (hen : ∀ b,E.en b = none -> h0 b = none) : ∀ (ds : List Deferred) (D : List Nat) (h : Nat -> Option Obj) (β : Nat -> Value) (H : List Blk) (w : World),Ext h0 β0 H0 h β H -> SR P E h β H w -> Fits P h β H σ a -> DfOk P E h β H D ds ->
   qL D H (fun H'=>xRes T σ H' fn.results.toList fun rs=>k (pack rs) H') -> LeavesInM (FW none) 0 P fn a.tmps (Ends P E h0 β0 H0 k) ds .returning w
 | [],D,h,β,H,w,X,s,F,df,hk=>by
   obtain ⟨_,df⟩:=df
   cases df
   obtain ⟨v,rs,e1,e2,e3⟩:=ga (fn:=fn) s F (wG ok hk)
   exact ⟨v,e1,pack rs,H,h,β,v,rfl,e3,X,s,e2⟩
 | d :: ds,D,h,β,H,w,X,s,F,⟨hen2,df⟩,hk=>by
   cases df with
   | @lost b _ _ hb he nd t =>
     have h4:=s.imm _ _ hb
     have htake:=run_takeDeferred (P:=P) h4
     refine ⟨by simp,.inl ⟨b,_,rfl,htake,?_⟩⟩
     exact gB ok hen ds D _ β H _ (X.hid (hen _ he)) (s.hid hb _) (F.hid hb) (DfOk.hid hb he ⟨hen2,t⟩ nd) hk
   | @own i b D _ h2 t =>
     unfold qL at hk
     split at hk
     case h_2=>exact hk.elim
     rename_i hl
     rw [zo] at hl
     obtain ⟨hlt,hk2⟩:=z8 hk
     cases h2 with
     | yld hlv hb =>
       have hb':=hb _ hl rfl
       obtain ⟨b',h3,h4⟩:=s.blk i _ hl
       rw [hb'] at h3;cases h3
       have htake:=run_takeDeferred (P:=P) h4
       have hbo : blkOf β H i = some b:=by simp only [blkOf,hl,hb'];rfl
       obtain ⟨s',X'⟩:=s.modify (β':=β) (w':=w.putObj b (.deferred none)) (x':=.raw (.deferred none)) hl (fun _ _=>rfl) (.inr ⟨_,rfl,rfl⟩) s.env
        (fun q _ hn=>World.putObj_heap_other (fun e=>hn (by rw [hbo,e]))) (fun b0 e=>.inl (by rw [hbo];rw [hb'] at e;exact e))
        (fun _=>⟨b,hb',World.putObj_heap_same (Array.getElem?_eq_some_iff.1 h4).1⟩)
       refine ⟨by simp,.inl ⟨b,_,rfl,htake,?_⟩⟩
       exact gB ok hen ds D h β _ _ (X.trans X') s' (F.ext X') (DfOk.ext ⟨hen2,t⟩ X') hk2
theorem z7.inl {f : FuncId} {fn : Func} {c : Code} {rs : List AV} {res : List ResultVar} {k : AV -> List Blk -> Prop} (ok : zH P T) (own : List Nat) (hf : P.funcs[f]? = some fn) (hb : fn.body = some c) (hn : (fn.name == "runtime.NumGoroutine") = false)
  (hN : fn.ntmps = N) (hr : fn.results = res.toArray) (hl : rs.length <= N) (x : XRun P T N none own c (XIn T res k) [] (argX rs) H) : z7 P f rs H k:=by
 refine ⟨⟨fn,hf,hn,by rw [hb];rfl⟩,fun E h β w vs s hrs=>?_⟩
 refine (show CallsIn (FW none) 0 P f vs.toArray w (Ends P ⟨E.b,E.fr,h⟩ h β H k) from ?_).mono fun _ _=>Ends.unen
 refine callsIn_of_wp_marks hf hb trivial ?_ rfl
 have hsz : (vs.toArray ++ Array.replicate (fn.ntmps - vs.toArray.size) undef).size = N:=by simp [hrs.1];omega
 refine wpIn_mono (XRun.sound (own:=own) ok x ⟨E.b,E.fr,h⟩ h β _ w ⟨s.en h,fun t r e=>?_,hsz,⟨fun _ _ e=>e,.nil⟩⟩) ?_
 ·rw [zbY] at e
  obtain ⟨v,h1,h2⟩:=hrs.2 t r e
  refine ⟨v,?_,h2⟩
  rw [Array.getElem?_append_left (by simpa using (List.getElem?_eq_some_iff.1 h1).1)];simpa using h1
 ·rintro e a' w' ⟨D',σ',H',h',β',q,X,s'⟩
  have hq : (e = .normal \/ e = .ret) /\ qL D' H' fun H'=>xRes T σ' H' fn.results.toList fun rs=>k (pack rs) H':=by
   rw [hr]
   unfold XIn at q;split at q
   ·exact ⟨.inl rfl,q⟩
   ·exact ⟨.inr rfl,q⟩
   ·exact q.elim
  obtain ⟨he,q⟩:=hq
  have hL : LeavesInM (FW none) 0 P fn a'.tmps (Ends P ⟨E.b,E.fr,h⟩ h β H k) a'.defers .returning w':=
   gB ok (fun _ e=>e) a'.defers D' h' β' H' w' X s'.sr s'.fits s'.df q
  rcases he with rfl | rfl <;> exact hL
theorem Comp.body' {f : FuncId} {fn : Func} {c : Code} {rs : List AV} {res : List ResultVar} {r0 : AV} (ok : zH P T) (own : List Nat) (hf : P.funcs[f]? = some fn) (hb : fn.body = some c) (hn : (fn.name == "runtime.NumGoroutine") = false)
  (hN : fn.ntmps = N) (hr : fn.results = res.toArray) (hl : rs.length <= N) (hlo : lowL 0 rs = true) (x : XRun P T N none own c (XFm P T res r0) [] (argX rs) []) : Comp P f rs r0:=by
 refine ⟨hlo,?_⟩
 obtain ⟨h1,h2⟩:=z7.inl ok own hf hb hn hN hr hl x
 refine ⟨h1,fun E h β w vs s hrs=>(h2 E h β w vs s hrs).mono ?_⟩
 rintro e w' ⟨r,H',h',β',v,rfl,hk,X,s',hrep⟩
 exact ⟨r0,[],hall h' β' H' w',β',v,rfl,⟨rfl,rfl⟩,⟨fun b o eb=>k7 s' (X.imm b o eb),Nat.le_refl _,by simp⟩,s'.all,hk.o E h' β' w' s' v hrep⟩
theorem XRun.monoX (ok : zH P T) {c : Code} {Q Q' : Post} {D : List Nat} (hq : ∀ e D σ H,Q e D σ H -> Q' e D σ H) (x : XRun P T N ρ own c Q D σ H) : AWp P N ρ c Q' D σ H:=(XRun.sound ok x).mono hq
theorem z7.inl0 {f : FuncId} {fn : Func} {c : Code} {rs : List AV} {res : List ResultVar} {k : AV -> List Blk -> Prop} (ok : zH P T) (own : List Nat) (hf : P.funcs[f]? = some fn) (hb : fn.body = some c) (hn : (fn.name == "runtime.NumGoroutine") = false)
  (hN : fn.ntmps = N) (hr : fn.results = res.toArray) (hl : rs.length <= N) (x : AWp P N none c (XIn T res k) [] (argX rs) H) : z7 P f rs H k:=by
 refine ⟨⟨fn,hf,hn,by rw [hb];rfl⟩,fun E h β w vs s hrs=>?_⟩
 refine (show CallsIn (FW none) 0 P f vs.toArray w (Ends P ⟨E.b,E.fr,h⟩ h β H k) from ?_).mono fun _ _=>Ends.unen
 refine callsIn_of_wp_marks hf hb trivial ?_ rfl
 have hsz : (vs.toArray ++ Array.replicate (fn.ntmps - vs.toArray.size) undef).size = N:=by simp [hrs.1];omega
 refine wpIn_mono (x ⟨E.b,E.fr,h⟩ h β _ w ⟨s.en h,fun t r e=>?_,hsz,⟨fun _ _ e=>e,.nil⟩⟩) ?_
 ·rw [zbY] at e
  obtain ⟨v,h1,h2⟩:=hrs.2 t r e
  refine ⟨v,?_,h2⟩
  rw [Array.getElem?_append_left (by simpa using (List.getElem?_eq_some_iff.1 h1).1)];simpa using h1
 ·rintro e a' w' ⟨D',σ',H',h',β',q,X,s'⟩
  have hq : (e = .normal \/ e = .ret) /\ qL D' H' fun H'=>xRes T σ' H' fn.results.toList fun rs=>k (pack rs) H':=by
   rw [hr]
   unfold XIn at q;split at q
   ·exact ⟨.inl rfl,q⟩
   ·exact ⟨.inr rfl,q⟩
   ·exact q.elim
  obtain ⟨he,q⟩:=hq
  have hL : LeavesInM (FW none) 0 P fn a'.tmps (Ends P ⟨E.b,E.fr,h⟩ h β H k) a'.defers .returning w':=
   gB ok (fun _ e=>e) a'.defers D' h' β' H' w' X s'.sr s'.fits s'.df q
  rcases he with rfl | rfl <;> exact hL
theorem Comp.body {f : FuncId} {fn : Func} {c : Code} {rs : List AV} {res : List ResultVar} {r0 : AV} (ok : zH P T) (own : List Nat) (hf : P.funcs[f]? = some fn) (hb : fn.body = some c) (hn : (fn.name == "runtime.NumGoroutine") = false)
  (hN : fn.ntmps = N) (hr : fn.results = res.toArray) (hl : rs.length <= N) (hlo : lowL 0 rs = true) (x : XRun P T N none own c (XFn P T res r0) [] (argX rs) []) : Comp P f rs r0:=by
 refine ⟨hlo,?_⟩
 obtain ⟨h1,h2⟩:=z7.inl0 (k:=fun r H=>XOut P H r r0) ok own hf hb hn hN hr hl (XRun.monoX ok (fun e D σ H q=>by
  unfold XFn at q
  split at q
  ·exact q
  ·exact q
  ·exact q.elim) x)
 refine ⟨h1,fun E h β w vs s hrs=>(h2 E h β w vs s hrs).mono ?_⟩
 rintro e w' ⟨r,H',h',β',v,rfl,hk,X,s',hrep⟩
 exact ⟨r0,[],hall h' β' H' w',β',v,rfl,⟨rfl,rfl⟩,⟨fun b o eb=>k7 s' (X.imm b o eb),Nat.le_refl _,by simp⟩,s'.all,hk.o E h' β' w' s' v hrep⟩
theorem zb.inl {f : FuncId} {fn : Func} {c : Code} {rs : List AV} {res : List ResultVar} {k : AV -> List Blk -> Prop} (ok : zH P T) (own : List Nat) (hf : P.funcs[f]? = some fn) (hb : fn.body = some c) (hn : (fn.name == "runtime.NumGoroutine") = false)
  (hN : fn.ntmps = N) (hr : fn.results = res.toArray) (hl : rs.length <= N) (x : XRun P T N none own c (XIn T res k) [] (argX rs) H) : zb P f rs H k:=
 ⟨.inl ok own hf hb hn hN hr hl x⟩
theorem Walk.nilgr {c : Code} {Q : Post} {D : List Nat} (t : Nat) (te : TypeId) (ht : σ t = some (.sl true [])) (x : Walk P N ρ c Q D (updX σ t (.gr H.length 0)) (H ++ [.grow te true []])) : Walk P N ρ c Q D σ H:=by
 constructor
 intro E h β a w s
 obtain ⟨s',X⟩:=s.sr.push (w':=w) s.sr.env (fun _ _=>rfl) (.slice none 0 0) (.grow te true []) (by intro b hb;simp [anchor] at hb) (fun _=>.inl ⟨rfl,rfl,by simp [upb]⟩)
 refine wpIn_mono (x.o E h _ a w ⟨s',fun u r e=>?_,s.size,s.df.ext X⟩) fun _ _ _=>Conc.ext X
 rw [kq] at e;unfold upd at e
 split at e
 ·rename_i hu;subst hu;cases e
  obtain ⟨v,h1,h2⟩:=s.fits u _ ht
  cases h2
  refine ⟨_,h1,.gr rfl (.push rfl) fun t' nl els e=>?_⟩
  rw [List.getElem?_append_right (Nat.le_refl _)] at e;simp at e;obtain ⟨_,_,rfl⟩:=e
  exact ⟨Nat.le_refl _,fun _=>by simp [upb]⟩
 ·obtain ⟨v,h1,h2⟩:=s.fits u r e
  exact ⟨v,h1,X.rep h2⟩
end
end GA
end
section
namespace GA
open Go Go.RowKit
section
variable {P : Program} {T : Tab} {N : Nat} {ρ : Option Nat} {own : List Nat} {E : Env} {h : Nat -> Option Obj} {β : Nat -> Value} {H : List Blk} {w : World} {σ σ' : St} {a : Act}
def wJ (σ σ' : St) (l : List Operand) : Prop:=∀ t,Operand.tmp t ∈ l -> ∀ r,σ t = some r -> σ' t = some r
theorem wJ.ev {l : List Operand} (k : wJ σ σ' l) {x : Operand} (hx : x ∈ l) {r : AV} (e : ev σ x = some r) : ev σ' x = some r:=by
 cases x with
 | tmp t=>exact k t hx r e
 | _=>exact e
theorem wJ.evL {l : List Operand} (k : wJ σ σ' l) : ∀ {xs : List Operand} {rs : List AV},(∀ x ∈ xs,x ∈ l) -> evL σ xs = some rs -> evL σ' xs = some rs
 | [],_,_,e=>e
 | x :: xs,rs,hx,e=>by
   unfold GA.evL at e ⊢
   split at e <;> cases e
   rename_i h1 h2
   rw [k.ev (hx x (by simp)) h1,k.evL (fun y hy=>hx y (by simp [hy])) h2]
theorem wJ.evP {l : List Operand} (k : wJ σ σ' l) : ∀ {xs : List (Nat × Operand)} {rs : List (Nat × AV)},(∀ x ∈ xs.map (·.2),x ∈ l) -> evP σ xs = some rs -> evP σ' xs = some rs
 | [],_,_,e=>e
 | (i,x) :: xs,rs,hx,e=>by
   unfold GA.evP at e ⊢
   split at e <;> cases e
   rename_i h1 h2
   rw [k.ev (hx x (by simp)) h1,k.evP (fun y hy=>hx y (by simp at hy ⊢;exact .inr hy)) h2]
theorem wJ.evO {l : List Operand} (k : wJ σ σ' l) {x : Option Operand} {r : Option AV} (hx : ∀ y,x = some y -> y ∈ l) (e : evO σ x = some r) : evO σ' x = some r:=by
 cases x with
 | none=>exact e
 | some y =>
   simp only [GA.evO] at e ⊢
   cases h1 : GA.ev σ y with
   | none=>rw [h1] at e;cases e
   | some z=>rw [h1] at e;rw [k.ev (hx y rfl) h1];exact e
theorem wJ.b {l : List Operand} (k : wJ σ σ' l) {x : Operand} (hx : x ∈ l) {K : AV -> Prop} (e : bnd (GA.ev σ x) K) : bnd (GA.ev σ' x) K:=by
 obtain ⟨r,h1,h2⟩:=zf e;rw [k.ev hx h1];exact h2
theorem AOp_look {op : Op} {d : Option Nat} {K : AV -> List Blk -> Prop} (k : wJ σ σ' op.operands.toList) (x : AOp P own d σ H K op) : AOp P own d σ' H K op:=by
 cases op with
 | move a=>exact k.b (by simp [Op.operands]) x
 | assign a=>exact k.b (by simp [Op.operands]) x
 | pick c a b =>
   refine zp (k.b (x:=c) (by simp [Op.operands]) x) fun r _ h=>?_
   split at h
   ·exact ⟨fun e=>k.b (by simp [Op.operands]) (h.1 e),fun e=>k.b (by simp [Op.operands]) (h.2 e)⟩
   ·exact h
 | alloc t=>exact x
 | box t a=>exact k.b (by simp [Op.operands]) x
 | build t ps=>obtain ⟨r,h1,h2⟩:=zf x;show bnd _ _;rw [k.evP (by simp [Op.operands]) h1];exact h2
 | buildSlice t n ps=>obtain ⟨r,h1,h2⟩:=zf x;show bnd _ _;rw [k.evP (by simp [Op.operands]) h1];exact h2
 | load t a=>exact k.b (by simp [Op.operands]) x
 | store t a v=>exact zp (k.b (x:=a) (by simp [Op.operands]) x) fun r _ h=>k.b (by simp [Op.operands]) h
 | nilCheck a=>exact k.b (by simp [Op.operands]) x
 | binOp op t a b y=>exact zp (k.b (x:=a) (by simp [Op.operands]) x) fun r _ h=>k.b (by simp [Op.operands]) h
 | unOp op t a=>exact k.b (by simp [Op.operands]) x
 | convert s d a=>exact k.b (by simp [Op.operands]) x
 | makeFunc fn first caps =>
   cases fn with
   | func f =>
     rcases x with ⟨h0,h⟩ | ⟨h0,h⟩
     ·obtain ⟨r,h1,h2⟩:=zf h
      refine .inl ⟨h0,?_⟩
      rw [k.evL (by simp [Op.operands];exact fun _ h=>.inr h) h1];exact h2
     ·obtain ⟨r,h1,h2⟩:=zf h
      refine .inr ⟨h0,?_⟩
      rw [k.evL (by simp [Op.operands];exact fun _ h=>.inl h) h1];exact h2
   | _=>exact x
 | makeSlice t a b=>exact zp (k.b (x:=a) (by simp [Op.operands]) x) fun r _ h=>k.b (by simp [Op.operands]) h
 | slice t a lo hi mx =>
   refine zp (k.b (x:=a) (by simp [Op.operands]) x) fun r _ h=>?_
   obtain ⟨l1,g1,h⟩:=zf h
   obtain ⟨l2,g2,h⟩:=zf h
   obtain ⟨l3,g3,h⟩:=zf h
   rw [k.evO (by rintro y rfl;simp [Op.operands]) g1,zu,k.evO (by rintro y rfl;simp [Op.operands]) g2,zu,k.evO (by rintro y rfl;simp [Op.operands]) g3,zu]
   exact h
 | fieldAddr t a f=>exact k.b (by simp [Op.operands]) x
 | field t a f=>exact k.b (by simp [Op.operands]) x
 | indexAddr t a b=>exact zp (k.b (x:=a) (by simp [Op.operands]) x) fun r _ h=>k.b (by simp [Op.operands]) h
 | index t a b=>exact zp (k.b (x:=a) (by simp [Op.operands]) x) fun r _ h=>k.b (by simp [Op.operands]) h
 | extract a i=>exact k.b (by simp [Op.operands]) x
 | makeMap t r=>exact x
 | lookup t a b ok=>exact zp (k.b (x:=a) (by simp [Op.operands]) x) fun r _ h=>k.b (by simp [Op.operands]) h
 | mapUpdate t m a b=>exact zp (k.b (x:=m) (by simp [Op.operands]) x) fun r _ h=>zp (k.b (x:=a) (by simp [Op.operands]) h) fun r _ h=>k.b (by simp [Op.operands]) h
 | insert t m a b=>exact zp (k.b (x:=m) (by simp [Op.operands]) x) fun r _ h=>zp (k.b (x:=a) (by simp [Op.operands]) h) fun r _ h=>k.b (by simp [Op.operands]) h
 | call c =>
   obtain ⟨callee,args,argTypes⟩:=c
   change jF P σ H _ K at x
   change jF P σ' H _ K
   unfold jF at x ⊢
   cases callee with
   | value f =>
     refine zp (k.b (x:=f) (by simp [Op.operands,Call.operands]) x) fun fv _ h=>?_
     obtain ⟨rs,h1,h2⟩:=zf h
     rw [k.evL (by simp [Op.operands,Call.operands];exact fun _ h=>.inr h) h1];exact h2
   | builtin b =>
     obtain ⟨rs,h1,h2⟩:=zf x
     simp only
     rw [k.evL (by simp [Op.operands,Call.operands]) h1];exact h2
   | invoke r m=>exact x
 | _=>exact x
end
end GA
end
section
namespace GA
open Go Go.RowKit
def dep (o : Oper) (j : Nat) : Bool:=o.after.toList.any fun e=>Region.binds .any e && Nat.beq e.on j
def zY (eff : List Nat) (listed : Array Bool) : List Bool:=eff.map fun j=>listed.getD j false
def setF (eff : List Nat) (i : Nat) (fl : List Bool) : List Bool:=List.zipWith (fun j b=>b || Nat.beq j i) eff fl
def opAt (ops : List Oper) (j : Nat) (f : Oper -> Bool) : Bool:=match lget ops j with | some o=>f o | none=>true
def compat (ops : List Oper) (eff : List Nat) (i : Nat) (fl : List Bool) : Bool:=
 (eff.zip fl).all fun (j,b) =>
  (opAt ops i fun o=>!dep o j || b) && (!Nat.beq j i || !b) && (opAt ops j fun o=>!dep o i || !b) &&
  (!b ||(eff.zip fl).all fun (j',b')=>opAt ops j fun o=>!dep o j' || b')
structure zg (r : AV) (H : List Blk) (r0 : AV) (H0 : List Blk) : Prop where
 r : r = r0
 h : H = H0
section
variable (P : Program) (T : Tab) (N : Nat) (own : List Nat) (ops : List Oper) (eff : List Nat) (HS : List Bool -> List Blk)
def Chk (i : Nat) (o : Oper) (σ : St) (r : AV) (fl : List Bool) : Prop:=
 xGate ops σ o.guard (fun σ=>XOp P T own o.dst σ (HS fl) (fun r' H'=>zg r' H' r (HS (setF eff i fl))) o.op) (fun _=>zg (.tup []) (HS fl) r (HS (setF eff i fl)))
def wX : Nat -> List Oper -> List AV -> St -> Prop
 | _,[],[],_=>True
 | i,o :: l,r :: R,σ=>(∀ fl,fl.length = eff.length -> compat ops eff i fl = true -> Chk P T own ops eff HS i o σ r fl) /\ wX (i + 1) l R (putX N σ o.dst r)
 | _,_,_,_=>False
end
def fC (N : Nat) : List Oper -> List AV -> St -> St
 | o :: l,r :: R,σ=>fC N l R (putX N σ o.dst r)
 | _,_,σ=>σ
section
variable {P : Program} {T : Tab} {N : Nat} {ρ : Option Nat} {own : List Nat} {E : Env} {h : Nat -> Option Obj} {β : Nat -> Value} {H : List Blk} {w : World} {σ σ' : St} {a : Act} {ops : List Oper} {eff : List Nat} {HS : List Bool -> List Blk}
theorem wX.get : ∀ {l : List Oper} {R : List AV} {i : Nat} {σ : St},wX P T N own ops eff HS i l R σ -> l.length = R.length /\ ∀ (j : Nat) o,l[j]? = some o -> ∃ r,R[j]? = some r /\
   ∀ fl,fl.length = eff.length -> compat ops eff (i + j) fl = true -> Chk P T own ops eff HS (i + j) o (fC N (l.take j) (R.take j) σ) r fl
 | [],[],_,_,_=>⟨rfl,by simp⟩
 | o :: l,r :: R,i,σ,h=>by
   obtain ⟨h1,h2⟩:=h
   obtain ⟨h3,h4⟩:=wX.get h2
   refine ⟨by simp [h3],fun j o' e=>?_⟩
   cases j with
   | zero=>simp at e;subst e;exact ⟨r,rfl,h1⟩
   | succ j =>
     obtain ⟨r',e1,e2⟩:=h4 j o' (by simpa using e)
     refine ⟨r',by simpa using e1,fun fl hf hc=>?_⟩
     have:=e2 fl hf (by rwa [show i + 1 + j = i + (j + 1) by omega])
     rw [show i + 1 + j = i + (j + 1) by omega] at this
     exact this
 | [],_ :: _,_,_,h=>h.elim
 | _ :: _,[],_,_,h=>h.elim
theorem putX_get {N : Nat} {σ : St} {d : Option Nat} {r x : AV} {t : Nat} (e : putX N σ d r t = some x) : (d = some t /\ t < N /\ x = r) \/ ((d ≠ some t \/ ¬ t < N) /\ σ t = some x):=by
 rw [zbX] at e
 cases d with
 | none=>exact .inr ⟨.inl (by simp),e⟩
 | some d =>
   simp only [putO] at e
   split at e
   ·rename_i hd;unfold upd at e;split at e
    ·rename_i ht;subst ht;cases e;exact .inl ⟨rfl,hd,rfl⟩
    ·rename_i ht;exact .inr ⟨.inl (by intro hh;cases hh;exact ht rfl),e⟩
   ·rename_i hd
    by_cases ht : d = t
    ·subst ht;exact .inr ⟨.inr hd,e⟩
    ·exact .inr ⟨.inl (by intro hh;cases hh;exact ht rfl),e⟩
theorem q9 {N : Nat} : ∀ {l : List Oper} {R : List AV} {σ : St} {t : Nat} {x : AV},l.length = R.length -> fC N l R σ t = some x ->
  (∃ (j : Nat) (o : Oper),l[j]? = some o /\ o.dst = some t /\ t < N /\ R[j]? = some x /\ ∀ (k : Nat) o',l[k]? = some o' -> j < k -> o'.dst ≠ some t) \/
  ((∀ (k : Nat) o',l[k]? = some o' -> o'.dst ≠ some t \/ ¬ t < N) /\ σ t = some x)
 | [],R,σ,t,x,hl,e=>by
   right;refine ⟨by simp,?_⟩
   cases R <;> exact e
 | o :: l,[],_,_,_,hl,_=>by simp at hl
 | o :: l,r :: R,σ,t,x,hl,e=>by
   rcases q9 (l:=l) (R:=R) (by simpa using hl) e with ⟨j,o',h1,h2,h3,h4,h5⟩ | ⟨h1,h2⟩
   ·left
    refine ⟨j + 1,o',by simpa using h1,h2,h3,by simpa using h4,fun k o'' hk hj=>?_⟩
    cases k with
    | zero=>omega
    | succ k=>exact h5 k o'' (by simpa using hk) (by omega)
   ·rcases putX_get h2 with ⟨g1,g2,g3⟩ | ⟨g1,g2⟩
    ·left
     refine ⟨0,o,rfl,g1,g2,by simp [g3],fun k o' hk hj=>?_⟩
     cases k with
     | zero=>omega
     | succ k =>
       rcases h1 k o' (by simpa using hk) with h | h
       ·exact h
       ·exact absurd g2 h
    ·right
     refine ⟨fun k o' hk=>?_,g2⟩
     cases k with
     | zero=>simp at hk;subst hk;exact g1
     | succ k=>exact h1 k o' (by simpa using hk)
theorem zcf {ops : Array Oper} : ∀ (fuel k : Nat) (listed : Array Bool),listed.size = ops.size -> (∀ j,listed.getD j true = false ↔ k <= j /\ j < ops.size) -> k + fuel = ops.size -> Region.lexFrom .any ops fuel k listed = true ->
  ∀ i o,k <= i -> ops[i]? = some o -> (∀ e ∈ o.after,Region.binds .any e = true -> e.on < i) /\ ∀ (j : Nat) oj,i < j -> ops[j]? = some oj -> (∀ e ∈ oj.after,Region.binds .any e = true -> e.on ≠ i) -> o.apart ops oj = true
 | 0,k,listed,_,_,hk,_,i,o,hi,ho=>by have:=(Array.getElem?_eq_some_iff.1 ho).1;omega
 | fuel + 1,k,listed,hs,hl,hk,hB,i,o,hi,ho=>by
   simp only [Region.lexFrom,Bool.and_eq_true] at hB
   obtain ⟨⟨hr,hf⟩,hB'⟩:=hB
   rcases Nat.lt_or_eq_of_le hi with hlt | rfl
   ·refine zcf fuel (k + 1) (listed.setIfInBounds k true) (by simpa using hs) (fun j=>?_) (by omega) hB' i o (by omega) ho
    by_cases hjk : k = j
    ·subst hjk
     have : k < listed.size:=by omega
     simp [this];omega
    ·rw [getD_set_ne true hjk,hl j];omega
   ·have hr' : k ∈ Region.ready .any ops listed:=by simpa using hr
    obtain ⟨_,o',ho',hall⟩:=mem_ready.1 hr'
    rw [ho] at ho';cases ho'
    refine ⟨fun e he hb=>?_,fun j oj hj hoj hno=>Region.free_spec ho hf j oj hoj (by omega) ((hl j).2 ⟨by omega,(Array.getElem?_eq_some_iff.1 hoj).1⟩) hno⟩
    have h1:=hall e he hb
    rcases Nat.lt_or_ge e.on k with h | h
    ·exact h
    ·exfalso
     rcases Nat.lt_or_ge e.on ops.size with h' | h'
     ·have h2:=(hl e.on).2 ⟨h,h'⟩
      simp at h1 h2
      rcases Nat.lt_or_ge e.on listed.size with h3 | h3
      ·simp [h3] at h1 h2;rw [h2] at h1;cases h1
      ·simp [Array.getElem?_eq_none h3] at h1
     ·have h3 : listed.size <= e.on:=by omega
      simp [Array.getElem?_eq_none h3] at h1
end
end GA
end
section
namespace GA
open Go Go.RowKit
section
variable {P : Program} {T : Tab} {N : Nat} {ρ : Option Nat} {own : List Nat} {E : Env} {h : Nat -> Option Obj} {β : Nat -> Value} {H : List Blk} {w : World} {σ σ' : St} {a : Act} {ops : List Oper} {eff : List Nat} {HS : List Bool -> List Blk}
def isL (listed : Array Bool) (j : Nat) : Prop:=listed.getD j false = true
def Closed (ops : List Oper) (listed : Array Bool) : Prop:=∀ (j : Nat) o,ops[j]? = some o -> isL listed j -> ∀ e ∈ o.after,Region.binds .any e = true -> isL listed e.on
structure DInv (P : Program) (E : Env) (N : Nat) (ops : List Oper) (eff : List Nat) (HS : List Bool -> List Blk) (R : List AV) (σ : St) (a0 : Act) (h0 : Nat -> Option Obj) (β0 : Nat -> Value) (H0 : List Blk) (listed : Array Bool) (a : Act) (w : World) : Prop where
 size : listed.size = ops.length
 closed : Closed ops listed
 st : ∃ h β,Ext h0 β0 H0 h β (HS (zY eff listed)) /\ SR P E h β (HS (zY eff listed)) w /\
  (∀ t r,σ t = some r -> (∀ (j : Nat) o,ops[j]? = some o -> isL listed j -> o.dst ≠ some t \/ ¬ t < N) -> ∃ v,a.tmps[t]? = some v /\ Rep P h β (HS (zY eff listed)) r v) /\
  (∀ (j : Nat) o d r,ops[j]? = some o -> isL listed j -> o.dst = some d -> d < N -> R[j]? = some r -> (∀ (k : Nat) ok,ops[k]? = some ok -> isL listed k -> j < k -> ok.dst ≠ some d) -> ∃ v,a.tmps[d]? = some v /\ Rep P h β (HS (zY eff listed)) r v)
 keeps : Keeps a0 a
theorem zba {o : Oper} {j : Nat} : dep o j = true ↔ ∃ e ∈ o.after,Region.binds .any e = true /\ e.on = j:=by
 unfold dep;rw [List.any_eq_true]
 constructor
 ·rintro ⟨e,h1,h2⟩
  simp only [Bool.and_eq_true] at h2
  exact ⟨e,by simpa using h1,h2.1,Nat.eq_of_beq_eq_true h2.2⟩
 ·rintro ⟨e,h1,h2,h3⟩
  exact ⟨e,by simpa using h1,by subst h3;simp [h2]⟩
theorem qB {listed : Array Bool} {p : Nat × Bool} : ∀ {eff : List Nat},p ∈ eff.zip (zY eff listed) -> p.2 = listed.getD p.1 false
 | [],h=>by simp at h
 | j :: eff,h=>by
   simp only [zY,List.map_cons,List.zip_cons_cons] at h
   rcases List.mem_cons.1 h with h | h
   ·subst h;rfl
   ·exact qB h
theorem qQ {j : Nat} {f : Oper -> Bool} (h : ∀ o,ops[j]? = some o -> f o = true) : opAt ops j f = true:=by
 unfold opAt;rw [zo];split
 ·rename_i e;exact h _ e
 ·rfl
theorem zbv {listed : Array Bool} {i : Nat} (hc : Closed ops listed) (hi : ¬ isL listed i) (hr : ∀ o,ops[i]? = some o -> ∀ e ∈ o.after,Region.binds .any e = true -> isL listed e.on) : compat ops eff i (zY eff listed) = true:=by
 unfold compat
 rw [List.all_eq_true]
 rintro ⟨j,b⟩ hp
 have hb:=qB hp
 simp only at hb;subst hb
 simp only [Bool.and_eq_true]
 refine ⟨⟨⟨qQ fun o ho=>?_,?_⟩,qQ fun o ho=>?_⟩,?_⟩
 ·cases hd : dep o j with
  | false=>rfl
  | true=>obtain ⟨e,h1,h2,h3⟩:=zba.1 hd;have:=hr o ho e h1 h2;rw [h3] at this;simpa [isL] using this
 ·cases hd : Nat.beq j i with
  | false=>rfl
  | true=>have:=Nat.eq_of_beq_eq_true hd;subst this;simpa [isL] using hi
 ·cases hd : dep o i with
  | false=>rfl
  | true =>
    obtain ⟨e,h1,h2,h3⟩:=zba.1 hd
    cases hl : listed.getD j false with
    | false=>rfl
    | true=>exact absurd (h3 ▸ hc j o ho hl e h1 h2) hi
 ·cases hl : listed.getD j false with
  | false=>rfl
  | true =>
    simp only [Bool.not_true,Bool.false_or]
    rw [List.all_eq_true]
    rintro ⟨j',b'⟩ hp'
    have hb':=qB hp'
    simp only at hb';subst hb'
    refine qQ fun o ho=>?_
    cases hd : dep o j' with
    | false=>rfl
    | true=>obtain ⟨e,h1,h2,h3⟩:=zba.1 hd;have:=hc j o ho hl e h1 h2;rw [h3] at this;simpa [isL] using this
theorem vn {listed : Array Bool} {i j : Nat} (hi : i < listed.size) : isL (listed.setIfInBounds i true) j ↔ j = i \/ isL listed j:=by
 unfold isL
 by_cases h : i = j
 ·subst h;simp [hi]
 ·rw [getD_set_ne false h];simp [Ne.symm h]
theorem wo {listed : Array Bool} {i : Nat} (hi : i < listed.size) : ∀ (eff : List Nat),zY eff (listed.setIfInBounds i true) = setF eff i (zY eff listed)
 | []=>rfl
 | j :: eff=>by
   simp only [zY,setF,List.map_cons,List.zipWith_cons_cons]
   congr 1
   ·by_cases h : i = j
    ·subst h;simp [hi]
    ·rw [getD_set_ne false h]
     cases hb : Nat.beq j i with
     | true=>exact absurd (Nat.eq_of_beq_eq_true hb).symm h
     | false=>simp
   ·exact wo hi eff
theorem DInv.step {R : List AV} {a0 : Act} {h0 : Nat -> Option Obj} {β0 : Nat -> Value} {H0 : List Blk} {Q : Exit -> Act -> World -> Prop} (ok : zH P T) (hN : a0.tmps.size = N)
  (hlex : ∀ (i : Nat) o,ops[i]? = some o -> ∀ (j : Nat) oj,i < j -> ops[j]? = some oj -> (∀ e ∈ oj.after,Region.binds .any e = true -> e.on ≠ i) -> o.apart ops.toArray oj = true)
  (hchk : wX P T N own ops eff HS 0 ops R σ) {listed : Array Bool} {a : Act} {w : World} (I : DInv P E N ops eff HS R σ a0 h0 β0 H0 listed a w) {i : Nat} (hi : i ∈ Region.ready .any ops.toArray listed) :
  wpOpIn (FW ρ) 0 P ops.toArray Q i (DInv P E N ops eff HS R σ a0 h0 β0 H0 (listed.setIfInBounds i true)) a w:=by
 obtain ⟨hnot,o,ho,hall⟩:=mem_ready.1 hi
 have ho' : ops[i]? = some o:=by simpa using ho
 have hilt : i < ops.length:=(List.getElem?_eq_some_iff.1 ho').1
 have hils : i < listed.size:=by rw [I.size];exact hilt
 have hni : ¬ isL listed i:=by unfold isL;simp [hils] at hnot ⊢;exact hnot
 obtain ⟨hRl,hget⟩:=hchk.get
 obtain ⟨r,hr,hc⟩:=hget i o ho'
 rw [Nat.zero_add] at hc
 have hC:=hc (zY eff listed) (by simp [zY]) (zbv I.closed hni fun o' h e he hb=>by rw [ho'] at h;cases h;exact hall e he hb)
 obtain ⟨h,β,X,s,K1,K2⟩:=I.st
 -- edges
 have edge : ∀ (j : Nat) oj,ops[j]? = some oj -> i < j -> isL listed j -> o.apart ops.toArray oj = true:=fun j oj hj hij hl =>
  hlex i o ho' j oj hij hj fun e he hb heq=>hni (heq ▸ I.closed j oj hj hl e he hb)
 have edge' : ∀ (j : Nat) oj,ops[j]? = some oj -> j < i -> ¬ isL listed j -> oj.apart ops.toArray o = true:=fun j oj hj hij hl =>
  hlex j oj hj i o hij ho' fun e he hb heq=>hl (heq ▸ hall e he hb)
 -- what is looked at
 let σ₁:=fC N (ops.take i) (R.take i) σ
 let σ₂ : St:=fun t=>if t ∈ o.looksAt ops.toArray then σ₁ t else none
 have hF : Fits P h β (HS (zY eff listed)) σ₂ a:=by
  intro t x ex
  simp only [σ₂] at ex
  split at ex
  ·rename_i hlook
   rcases q9 (by simp [hRl]) ex with ⟨j,oj,h1,h2,h3,h4,h5⟩ | ⟨h1,h2⟩
   ·have hji : j < i:=by have:=(List.getElem?_eq_some_iff.1 h1).1;simp at this;omega
    have h1' : ops[j]? = some oj:=by rw [List.getElem?_take,if_pos hji] at h1;exact h1
    have h4' : R[j]? = some x:=by rw [List.getElem?_take,if_pos hji] at h4;exact h4
    have hjl : isL listed j:=by
     by_cases hl : isL listed j
     ·exact hl
     ·exact absurd hlook ((Oper.apart_spec (edge' j oj h1' hji hl)).1 t h2)
    refine K2 j oj t x h1' hjl h2 h3 h4' fun k ok hk hkl hjk=>?_
    rcases Nat.lt_trichotomy k i with hki | rfl | hki
    ·exact h5 k ok (by rw [List.getElem?_take,if_pos hki];exact hk) hjk
    ·exact absurd hkl hni
    ·intro hd;exact (Oper.apart_spec (edge k ok hk hki hkl)).2.2 t hd hlook
   ·refine K1 t x h2 fun j oj hj hjl=>?_
    rcases Nat.lt_trichotomy j i with hji | rfl | hji
    ·exact h1 j oj (by rw [List.getElem?_take,if_pos hji];exact hj)
    ·exact absurd hjl hni
    ·left;intro hd;exact (Oper.apart_spec (edge j oj hj hji hjl)).2.2 t hd hlook
  ·cases ex
 have hk2 : wJ σ₁ σ₂ o.op.operands.toList:=by
  intro t ht x ex
  have : t ∈ o.looksAt ops.toArray:=by
   unfold Oper.looksAt;rw [List.mem_append];left;rw [List.mem_filterMap];exact ⟨.tmp t,ht,rfl⟩
  simp only [σ₂];rw [if_pos this];exact ex
 have hg1:=zad hC
 have hg2 : gate ops σ₂ o.guard (XOp P T own o.dst σ₁ (HS (zY eff listed)) (fun r' H'=>zg r' H' r (HS (setF eff i (zY eff listed)))) o.op) (zg (.tup []) (HS (zY eff listed)) r (HS (setF eff i (zY eff listed)))):=by
  unfold gate at hg1 ⊢
  cases hgd : o.guard with
  | none=>rw [hgd] at hg1;exact hg1
  | some p =>
    obtain ⟨j,want⟩:=p
    rw [hgd] at hg1
    obtain ⟨d,e1,e2⟩:=zf hg1
    obtain ⟨x,e3,e4⟩:=zf e2
    have : d ∈ o.looksAt ops.toArray:=by
     unfold Oper.looksAt;rw [List.mem_append];right;rw [hgd];simp only [List.getElem?_toArray,e1];simp
    have e5 : σ₂ d = some x:=by simp only [σ₂];rw [if_pos this];exact e3
    simp only [e1,zu,e5];exact e4
 -- the next state
 have next : ∀ (v : Value) h' β' w',Ext h β (HS (zY eff listed)) h' β' (HS (setF eff i (zY eff listed))) -> SR P E h' β' (HS (setF eff i (zY eff listed))) w' -> Rep P h' β' (HS (setF eff i (zY eff listed))) r v ->
   DInv P E N ops eff HS R σ a0 h0 β0 H0 (listed.setIfInBounds i true) (a.put o.dst v) w':=by
  intro v h' β' w' X' s' hrep
  have hsz : a.tmps.size = N:=I.keeps.size.trans hN
  refine ⟨by simpa using I.size,fun j oj hj hl e he hb=>?_,⟨h',β',?_,?_,?_,?_⟩,⟨(w2 _ _ _).trans I.keeps.size,(vI _ _ _).trans I.keeps.defers⟩⟩
  ·rw [vn hils] at hl ⊢
   rcases hl with rfl | hl
   ·rw [ho'] at hj;cases hj;exact .inr (hall e he hb)
   ·exact .inr (I.closed j oj hj hl e he hb)
  ·rw [wo hils];exact X.trans X'
  ·rw [wo hils];exact s'
  ·rw [wo hils]
   intro t x ex hno
   obtain ⟨u,g1,g2⟩:=K1 t x ex fun j oj hj hl=>hno j oj hj ((vn hils).2 (.inr hl))
   refine ⟨u,?_,X'.rep g2⟩
   have hd:=hno i o ho' ((vn hils).2 (.inl rfl))
   cases hdst : o.dst with
   | none=>exact g1
   | some d =>
     simp only [Act.put]
     by_cases hdt : d = t
     ·subst hdt
      rcases hd with hd | hd
      ·exact absurd hdst hd
      ·rw [Array.setIfInBounds_eq_of_size_le (by omega)];exact g1
     ·rw [Array.getElem?_setIfInBounds_ne hdt];exact g1
  ·rw [wo hils]
   intro j oj d x hj hl hd hdN hx hlast
   rw [vn hils] at hl
   by_cases hji : j = i
   ·subst hji
    rw [ho'] at hj;cases hj
    rw [hr] at hx;cases hx
    exact ⟨v,by rw [hd];simp [Act.put,hsz,hdN],hrep⟩
   ·have hl : isL listed j:=hl.resolve_left hji
    obtain ⟨u,g1,g2⟩:=K2 j oj d x hj hl hd hdN hx fun k ok hk hkl hjk=>hlast k ok hk ((vn hils).2 (.inr hkl)) hjk
    refine ⟨u,?_,X'.rep g2⟩
    have hne : o.dst ≠ some d:=by
     intro hod
     rcases Nat.lt_trichotomy j i with hlt | heq | hlt
     ·exact hlast i o ho' ((vn hils).2 (.inl rfl)) hlt hod
     ·exact hji heq
     ·exact (Oper.apart_spec (edge j oj hj hlt hl)).2.1 d hod hd
    cases hdst : o.dst with
    | none=>exact g1
    | some d' =>
      simp only [Act.put]
      rw [Array.getElem?_setIfInBounds_ne (fun e=>hne (by rw [hdst,e]))];exact g1
 unfold wpOpIn
 simp only [ho]
 rcases gn hF hg2 with ⟨hw,hA⟩ | ⟨hw,hB⟩
 ·rw [if_pos hw]
  refine AOp.sound (AOp_look hk2 (hA.sound ok)) s hF ?_
  intro r' H' h' β' w' v hk' X' s' hrep
  obtain ⟨e1,e2⟩:=hk'
  subst e1;subst e2
  exact next v h' β' w' X' s' hrep
 ·rw [if_neg (by rw [hw];simp)]
  refine ⟨fun _ _=>trivial,?_⟩
  obtain ⟨e1,e2⟩:=hB
  refine next undef h β w ?_ ?_ ?_
  ·rw [<- e2];exact Ext.refl _ _ _
  ·rw [<- e2];exact s
  ·rw [<- e1];exact za5
theorem unl_zero {listed : Array Bool} (h : (List.range listed.size).countP (fun j=>!listed.getD j false) = 0) {j : Nat} (hj : j < listed.size) : isL listed j:=by
 rw [List.countP_eq_zero] at h
 have:=h j (by simpa using hj)
 simpa [isL] using this
theorem unl_set {listed : Array Bool} {i : Nat} (hi : i < listed.size) (hn : ¬ isL listed i) :
  (List.range (listed.setIfInBounds i true).size).countP (fun j=>!(listed.setIfInBounds i true).getD j false) + 1 = (List.range listed.size).countP (fun j=>!listed.getD j false):=by
 have e : ∀ n,n <= listed.size -> (List.range n).countP (fun j=>!(listed.setIfInBounds i true).getD j false) + (if i < n then 1 else 0) = (List.range n).countP (fun j=>!listed.getD j false):=by
  intro n
  induction n with
  | zero=>intro _;simp
  | succ n ih =>
    intro hn'
    have ih:=ih (by omega)
    rw [List.range_succ,List.countP_append,List.countP_append,<- ih]
    by_cases h : i = n
    ·subst h
     have h1 : listed.getD i false = false:=by unfold isL at hn;simpa using hn
     have h2 : (listed.setIfInBounds i true).getD i false = true:=by simp [hi]
     simp only [List.countP_cons,List.countP_nil,h1,h2]
     simp
    ·rw [show List.countP (fun j=>!(listed.setIfInBounds i true).getD j false) [n] = List.countP (fun j=>!listed.getD j false) [n] by simp only [List.countP_cons,List.countP_nil,getD_set_ne false h]]
     split <;> split <;> omega
 have:=e listed.size (Nat.le_refl _)
 rw [if_pos hi] at this
 simpa using this
theorem DInv.any {R : List AV} {a0 : Act} {h0 : Nat -> Option Obj} {β0 : Nat -> Value} {H0 : List Blk} {Q : Exit -> Act -> World -> Prop} (ok : zH P T) (hN : a0.tmps.size = N) (hs : Region.lexB .any ops.toArray = true)
  (hchk : wX P T N own ops eff HS 0 ops R σ) (hQ : ∀ listed a w,DInv P E N ops eff HS R σ a0 h0 β0 H0 listed a w -> (∀ j,j < ops.length -> isL listed j) -> Q .normal a w) :
  ∀ (fuel : Nat) (listed : Array Bool) (a : Act) (w : World),(List.range listed.size).countP (fun j=>!listed.getD j false) = fuel -> DInv P E N ops eff HS R σ a0 h0 β0 H0 listed a w -> wpAnyIn (FW ρ) 0 P .any ops.toArray Q fuel listed a w:=by
 simp only [Region.lexB,Bool.and_eq_true] at hs
 have hspec:=zcf (ops:=ops.toArray) ops.toArray.size 0 (Array.replicate ops.toArray.size false) (by simp) (fun j=>by
  simp only [Array.getD_eq_getD_getElem?,Array.getElem?_replicate]
  split <;> simp_all) (by simp) hs.2
 have hlex : ∀ (i : Nat) o,ops[i]? = some o -> ∀ (j : Nat) oj,i < j -> ops[j]? = some oj -> (∀ e ∈ oj.after,Region.binds .any e = true -> e.on ≠ i) -> o.apart ops.toArray oj = true:=
  fun i o ho j oj hij hj hno=>(hspec i o (Nat.zero_le _) (by simpa using ho)).2 j oj hij (by simpa using hj) hno
 -- who is ready when nobody is
 have hready : ∀ listed a w,DInv P E N ops eff HS R σ a0 h0 β0 H0 listed a w -> Region.ready .any ops.toArray listed = [] -> ∀ j,j < ops.length -> isL listed j:=by
  intro listed a w I hr j
  induction j using Nat.strongRecOn with
  | _ j ih =>
    intro hj
    by_cases hl : isL listed j
    ·exact hl
    ·exfalso
     have : j ∈ Region.ready .any ops.toArray listed:=by
      rw [mem_ready]
      refine ⟨?_,ops[j],by simp [hj],fun e he hb=>?_⟩
      ·have hjs : j < listed.size:=by rw [I.size];exact hj
       unfold isL at hl;simp [hjs] at hl ⊢;exact hl
      ·have h1:=(hspec j ops[j] (Nat.zero_le _) (by simp [hj])).1 e he hb
       exact ih e.on h1 (by omega)
     rw [hr] at this;cases this
 intro fuel
 induction fuel with
 | zero =>
   intro listed a w hc I
   have hall : ∀ j,j < ops.length -> isL listed j:=fun j hj=>unl_zero hc (by rw [I.size];exact hj)
   refine ⟨?_,hQ listed a w I hall⟩
   cases hr : Region.ready .any ops.toArray listed with
   | nil=>rfl
   | cons j l =>
     have : j ∈ Region.ready .any ops.toArray listed:=by rw [hr];simp
     obtain ⟨h1,o,h2,_⟩:=mem_ready.1 this
     have hj : j < ops.length:=by have:=(Array.getElem?_eq_some_iff.1 h2).1;simpa using this
     have hjs : j < listed.size:=by rw [I.size];exact hj
     have:=hall j hj
     unfold isL at this;simp [hjs] at h1 this;rw [h1] at this;cases this
 | succ fuel ih =>
   intro listed a w hc I
   refine ⟨fun hr=>hQ listed a w I (hready listed a w I hr),fun i hi=>?_⟩
   obtain ⟨h1,o,h2,_⟩:=mem_ready.1 hi
   have hj : i < ops.length:=by have:=(Array.getElem?_eq_some_iff.1 h2).1;simpa using this
   have hjs : i < listed.size:=by rw [I.size];exact hj
   have hn : ¬ isL listed i:=by unfold isL;simp [hjs] at h1 ⊢;exact h1
   refine wpOpIn_mono (fun a' w' I'=>ih _ a' w' ?_ I') (DInv.step ok hN hlex hchk I hi)
   have:=unl_set hjs hn
   omega
theorem Walk.draw {id : Nat} {Q : Post} {D : List Nat} (ok : zH P T) (hm : P.follows .mixedOrders = true) (own : List Nat) (eff : List Nat) (HS : List Bool -> List Blk) (R : List AV) (hs : Region.lexB .any ops.toArray = true)
  (hH : HS (eff.map fun _=>false) = H) (hchk : wX P T N own ops eff HS 0 ops R σ) (hk : Q .normal D (fC N ops R σ) (HS (eff.map fun j=>Nat.blt j ops.length))) : Walk P N ρ (.region id ops.toArray true) Q D σ H:=by
 constructor
 intro E h β a w s
 have hfl0 : zY eff (Array.replicate ops.toArray.size false) = eff.map fun _=>false:=by
  unfold zY;apply List.map_congr_left;intro j _
  simp only [Array.getD_eq_getD_getElem?,Array.getElem?_replicate];split <;> rfl
 have hnl : ∀ j,¬ isL (Array.replicate ops.toArray.size false) j:=by
  intro j;unfold isL
  simp only [Array.getD_eq_getD_getElem?,Array.getElem?_replicate];split <;> simp
 have I0 : DInv P E N ops eff HS R σ a h β H (Array.replicate ops.toArray.size false) a { w with drawn:=w.drawn + 1 }:=by
  refine ⟨by simp,fun j o _ hl=>absurd hl (hnl j),⟨h,β,?_,?_,fun t r e _=>?_,fun j o d r _ hl=>absurd hl (hnl j)⟩,⟨rfl,rfl⟩⟩
  ·rw [hfl0,hH];exact Ext.refl _ _ _
  ·rw [hfl0,hH];exact s.sr.drew
  ·rw [hfl0,hH];exact s.fits t r e
 have hcnt : (List.range (Array.replicate ops.toArray.size false).size).countP (fun j=>!(Array.replicate ops.toArray.size false).getD j false) = ops.toArray.size:=by
  rw [List.countP_eq_length.2]
  ·simp
  ·intro j _;have:=hnl j;unfold isL at this;simpa using this
 refine wpIn_region_any hm (DInv.any ok s.size hs hchk (fun listed a' w' I hall=>?_) _ _ a _ hcnt I0)
 obtain ⟨h',β',X,s',K1,K2⟩:=I.st
 have hfl : zY eff listed = eff.map fun j=>Nat.blt j ops.length:=by
  unfold zY;apply List.map_congr_left;intro j _
  rcases Nat.lt_or_ge j ops.length with hj | hj
  ·have:=hall j hj;unfold isL at this;rw [this];symm;rw [Nat.blt_eq];exact hj
  ·have h1 : listed.getD j false = false:=by simp [Array.getElem?_eq_none (show listed.size <= j by rw [I.size];exact hj)]
   rw [h1];cases hb : Nat.blt j ops.length with
   | false=>rfl
   | true=>rw [Nat.blt_eq] at hb;omega
 rw [hfl] at X s' K1 K2
 refine ⟨D,_,_,h',β',hk,X,s',fun t x ex=>?_,I.keeps.size.trans s.size,by rw [I.keeps.defers];exact s.df.ext X⟩
 rcases q9 hchk.get.1 ex with ⟨j,oj,h1,h2,h3,h4,h5⟩ | ⟨h1,h2⟩
 ·exact K2 j oj t x h1 (hall j (List.getElem?_eq_some_iff.1 h1).1) h2 h3 h4 fun k ok hk _ hjk=>h5 k ok hk hjk
 ·exact K1 t x h2 fun j o hj _=>h1 j o hj
end
end GA
end
section
namespace GA
open Go Go.RowKit
structure XAnd (A B : Prop) : Prop where
 l : A
 r : B
def allF : Nat -> List (List Bool)
 | 0=>[[]]
 | n + 1=>(allF n).flatMap fun l=>[l ++ [false],l ++ [true]]
def zaS : List Bool -> List Bool -> Bool
 | [],[]=>true
 | true :: l,true :: m=>zaS l m
 | false :: l,false :: m=>zaS l m
 | _,_=>false
theorem gT : ∀ {l m : List Bool},zaS l m = true -> l = m
 | [],[],_=>rfl
 | true :: l,true :: m,h=>by rw [gT (l:=l) (m:=m) h]
 | false :: l,false :: m,h=>by rw [gT (l:=l) (m:=m) h]
 | [],_ :: _,h=>by cases h
 | _ :: _,[],h=>by simp [zaS] at h
 | true :: _,false :: _,h=>by cases h
 | false :: _,true :: _,h=>by cases h
theorem zcT : ∀ {n : Nat} {fl : List Bool},fl.length = n -> fl ∈ allF n
 | 0,fl,h=>by simp [allF,List.eq_nil_of_length_eq_zero h]
 | n + 1,fl,h=>by
   have hne : fl ≠ []:=by intro e;rw [e] at h;simp at h
   have h1 : fl.dropLast ++ [fl.getLast hne] = fl:=List.dropLast_concat_getLast hne
   have h2:=zcT (n:=n) (fl:=fl.dropLast) (by simp [h])
   simp only [allF,List.mem_flatMap]
   refine ⟨fl.dropLast,h2,?_⟩
   cases hb : fl.getLast hne with
   | true=>rw [hb] at h1;rw [h1];simp
   | false=>rw [hb] at h1;rw [h1];simp
section
variable (P : Program) (T : Tab) (N : Nat) (own : List Nat) (ops : List Oper) (eff : List Nat) (HS : List Bool -> List Blk)
def textF (i : Nat) : List Bool:=eff.map fun j=>Nat.blt j i
def ChkA : Nat -> List Oper -> List AV -> St -> Prop
 | _,[],[],_=>True
 | i,o :: l,r :: R,σ=>XAnd (Chk P T own ops eff HS i o σ r (textF eff i)) (ChkA (i + 1) l R (putX N σ o.dst r))
 | _,_,_,_=>False
def ChkF (fl : List Bool) : Nat -> List Oper -> List AV -> St -> Prop
 | i,o :: l,r :: R,σ=>match compat ops eff i fl && !zaS fl (textF eff i) with
   | true=>XAnd (Chk P T own ops eff HS i o σ r fl) (ChkF fl (i + 1) l R (putX N σ o.dst r))
   | false=>ChkF fl (i + 1) l R (putX N σ o.dst r)
 | _,_,_,_=>True
def ChkB (R : List AV) (σ : St) : List (List Bool) -> Prop
 | []=>True
 | fl :: fls=>XAnd (ChkF P T N own ops eff HS fl 0 ops R σ) (ChkB R σ fls)
end
section
variable {P : Program} {T : Tab} {N : Nat} {own : List Nat} {ops : List Oper} {eff : List Nat} {HS : List Bool -> List Blk}
theorem ChkF.all : ∀ {l : List Oper} {R : List AV} {i : Nat} {σ : St},ChkA P T N own ops eff HS i l R σ -> (∀ fl,fl.length = eff.length -> ChkF P T N own ops eff HS fl i l R σ) -> wX P T N own ops eff HS i l R σ
 | [],[],_,_,_,_=>trivial
 | o :: l,r :: R,i,σ,hA,hB=>by
   refine ⟨fun fl hf hc=>?_,ChkF.all hA.r fun fl hf=>?_⟩
   ·cases hs : zaS fl (textF eff i) with
    | true=>rw [gT hs];exact hA.l
    | false =>
      have:=hB fl hf
      simp only [ChkF,hc,hs] at this
      exact this.l
   ·have:=hB fl hf
    simp only [ChkF] at this
    split at this
    ·exact this.r
    ·exact this
 | [],_ :: _,_,_,h,_=>h.elim
 | _ :: _,[],_,_,h,_=>h.elim
theorem ChkB.get {R : List AV} {σ : St} : ∀ {fls : List (List Bool)},ChkB P T N own ops eff HS R σ fls -> ∀ fl ∈ fls,ChkF P T N own ops eff HS fl 0 ops R σ
 | fl :: fls,h,f,hf=>by
   rcases List.mem_cons.1 hf with rfl | hf
   ·exact h.l
   ·exact ChkB.get h.r f hf
def hsC (l : List (List Blk)) (fl : List Bool) : List Blk:=match lget l (fl.countP id) with | some H=>H | none=>[]
theorem Walk.drawX {ρ : Option Nat} {id : Nat} {Q : Post} {D : List Nat} {σ : St} {H : List Blk} (ok : zH P T) (hm : P.follows .mixedOrders = true) (own : List Nat) (eff : List Nat) (HS : List Bool -> List Blk) (R : List AV) (hs : Region.lexB .any ops.toArray = true)
  (hH : HS (eff.map fun _=>false) = H) (hA : ChkA P T N own ops eff HS 0 ops R σ) (hB : ChkB P T N own ops eff HS R σ (allF eff.length)) (hk : Q .normal D (fC N ops R σ) (HS (eff.map fun j=>Nat.blt j ops.length))) : Walk P N ρ (.region id ops.toArray true) Q D σ H:=
 .draw ok hm own eff HS R hs hH (ChkF.all hA fun fl hf=>hB.get fl (zcT hf)) hk
theorem ChkA.go {i : Nat} {l : List Oper} {R : List AV} {σ : St} (h : ChkA P T N own ops eff HS i l R σ) : ChkA P T N own ops eff HS i l R σ:=h
theorem ChkF.go {fl : List Bool} {i : Nat} {l : List Oper} {R : List AV} {σ : St} (h : ChkF P T N own ops eff HS fl i l R σ) : ChkF P T N own ops eff HS fl i l R σ:=h
theorem ChkB.go {R : List AV} {σ : St} {fls : List (List Bool)} (h : ChkB P T N own ops eff HS R σ fls) : ChkB P T N own ops eff HS R σ fls:=h
theorem Chk.go {i : Nat} {o : Oper} {σ : St} {r : AV} {fl : List Bool} (h : Chk P T own ops eff HS i o σ r fl) : Chk P T own ops eff HS i o σ r fl:=h
end
end GA
end
section
namespace GA
open Go Go.RowKit
section
variable {P : Program} {T : Tab} {N : Nat} {ρ : Option Nat} {D : List Nat} {σ : St} {H : List Blk} {Q : Post}
theorem AWp.loopG {c : Code} {G : Type} (st : G -> St) (hp : G -> List Blk) (μ : G -> Nat) (g0 : G) (hσ : ∀ t r,st g0 t = some r -> σ t = some r) (hH : hp g0 = H) (hD : D = [])
  (hlow : ∀ g,(∀ x ∈ hp g,x.low (hp g).length = true) /\ ∀ t r,st g t = some r -> r.low (hp g).length = true) (hlen : ∀ g,(hp g0).length <= (hp g).length)
  (round : ∀ g,AWp P N ρ c (yX (fun D' σ' H'=>D' = D /\ ∃ g' l,μ g' < μ g /\ hp g' ++ l = H' /\ ∀ t r,st g' t = some r -> σ' t = some r) Q) D (st g) (hp g)) : AWp P N ρ (.loop c) Q D σ H:=by
 intro E h β a w s
 subst hH;subst hD
 let I : G -> Act -> World -> Prop:=fun g a w=>∃ h' β',Ext h β (hp g0) h' β' (hp g) /\ jW P E N h' β' [] (st g) (hp g) a w
 have least : ∀ a w,(∃ g,I g a w) -> ∃ n,(∃ g,I g a w /\ μ g = n) /\ ∀ m,m < n -> ¬ ∃ g,I g a w /\ μ g = m:=
  fun a w ⟨g,hg⟩=>qn ⟨μ g,g,hg,rfl⟩
 classical
 let M : Act -> World -> Nat:=fun a w=>if e : ∃ g,I g a w then Classical.choose (least a w e) else 0
 have hM : ∀ a w (e : ∃ g,I g a w),(∃ g,I g a w /\ μ g = M a w) /\ ∀ g,I g a w -> M a w <= μ g:=by
  intro a w e
  have hc:=Classical.choose_spec (least a w e)
  have hm : M a w = Classical.choose (least a w e):=by simp only [M,dif_pos e]
  rw [hm]
  refine ⟨hc.1,fun g hg=>?_⟩
  rcases Nat.lt_or_ge (μ g) (Classical.choose (least a w e)) with hlt | hge
  ·exact absurd ⟨g,hg,rfl⟩ (hc.2 _ hlt)
  ·exact hge
 refine wpIn_loop (fun a w=>∃ g,I g a w) M ⟨g0,h,β,Ext.refl _ _ _,s.sr,fun t r e=>s.fits t r (hσ t r e),s.size,s.df⟩ ?_
 intro a' w' hI
 obtain ⟨⟨g,hg,hmu⟩,_⟩:=hM a' w' hI
 obtain ⟨h',β',X,s'⟩:=hg
 refine wpIn_mono (round g E h' β' a' w' s') ?_
 rintro e a'' w'' ⟨D'',σ'',H'',h'',β'',q,X',s''⟩
 cases e with
 | normal =>
   obtain ⟨rfl,g',l,hlt,rfl,hsub⟩:=q
   have hI' : I g' a'' w'':=by
    refine ⟨h'',β'',(X.trans X').cut (hlen g'),s''.sr.cut (hlow g').1,fun t r e=>?_,s''.size,s''.df.any⟩
    obtain ⟨v,h1,h2⟩:=s''.fits t r (hsub t r e)
    exact ⟨v,h1,h2.cut ((hlow g').2 t r e)⟩
   refine ⟨⟨g',hI'⟩,?_⟩
   have:=(hM a'' w'' ⟨g',hI'⟩).2 g' hI'
   omega
 | _=>exact ⟨D'',σ'',H'',h'',β'',q,X.trans X',s''⟩
structure zl {G : Type} (I : G -> Prop) (L : G -> List (Nat × AV)) (hp : G -> List Blk) (μ : G -> Nat) (g : G) (D' : List Nat) (σ' : St) (H' : List Blk) : Prop where
 d : D' = []
 o : ∃ g' l,I g' /\ μ g' < μ g /\ hp g' ++ l = H' /\ SubX (L g') σ'
theorem Walk.loopG {c : Code} {G : Type} (ok : zH P T) (own : List Nat) (I : G -> Prop) (L : G -> List (Nat × AV)) (hp : G -> List Blk) (μ : G -> Nat) (g0 : G) (h0 : I g0) (hH : hp g0 = H) (hs : SubX (L g0) σ)
  (hlow : ∀ g,I g -> (∀ x ∈ hp g,x.low (hp g).length = true) /\ ∀ p ∈ L g,p.2.low (hp g).length = true) (hlen : ∀ g,I g -> (hp g0).length <= (hp g).length)
  (round : ∀ g,I g -> XRun P T N ρ own c (yX (zl I L hp μ g) Q) [] (stX (L g)) (hp g)) : Walk P N ρ (.loop c) Q [] σ H:=by
 constructor
 have hst : ∀ (l : List (Nat × AV)) t r,stX l t = some r -> (t,r) ∈ l:=by
  intro l;induction l with
  | nil=>intro t r h;cases h
  | cons p l ih =>
    obtain ⟨u,x⟩:=p
    intro t r h;simp only [stX,kq,upd] at h
    split at h
    ·rename_i e;cases h;subst e;exact List.mem_cons_self
    ·exact List.mem_cons_of_mem _ (ih t r h)
 refine AWp.loopG (G:={g : G // I g}) (fun g=>stX (L g.1)) (fun g=>hp g.1) (fun g=>μ g.1) ⟨g0,h0⟩ (kR hs) hH rfl (fun g=>⟨(hlow g.1 g.2).1,fun t r e=>(hlow g.1 g.2).2 (t,r) (hst _ _ _ e)⟩) (fun g=>hlen g.1 g.2) fun g=>?_
 refine (XRun.sound ok (round g.1 g.2)).mono fun e D' σ' H' q=>?_
 cases e with
 | normal=>obtain ⟨h1,g',l,h2,h3,h4,h5⟩:=q;exact ⟨h1,⟨g',h2⟩,l,h3,h4,kR h5⟩
 | _=>exact q
theorem zl.go {G : Type} {I : G -> Prop} {L : G -> List (Nat × AV)} {hp : G -> List Blk} {μ : G -> Nat} {g : G} (g' : G) (l : List Blk) (h1 : I g') (h2 : μ g' < μ g) (h3 : hp g' ++ l = H) (h4 : SubX (L g') σ) : zl I L hp μ g [] σ H:=⟨rfl,g',l,h1,h2,h3,h4⟩
end
end GA
end
section
namespace GA
open Go Go.RowKit
mutual
def AV.ren (ρ : Nat -> Nat) : AV -> AV
 | .ptr i o=>.ptr (ρ i) o
 | .gr i n=>.gr (ρ i) n
 | .gp i n e o=>.gp (ρ i) n e o
 | .os i m o n=>.os (ρ i) m o n
 | .mp i=>.mp (ρ i)
 | .yld i=>.yld (ρ i)
 | .pim cs=>.pim (renL ρ cs)
 | .sl nl cs=>.sl nl (renL ρ cs)
 | .fn f cs=>.fn f (renL ρ cs)
 | .bf f cs=>.bf f (renL ρ cs)
 | .agg cs=>.agg (renL ρ cs)
 | .tup cs=>.tup (renL ρ cs)
 | .im ks cs=>.im ks (renL ρ cs)
 | .bool b=>.bool b
 | .int k n=>.int k n
 | .nilp=>.nilp
 | .se=>.se
 | .nilm=>.nilm
 | .nilf=>.nilf
def renL (ρ : Nat -> Nat) : List AV -> List AV
 | []=>[]
 | x :: l=>x.ren ρ :: renL ρ l
end
theorem zI (ρ : Nat -> Nat) : ∀ l : List AV,renL ρ l = l.map (AV.ren ρ)
 | []=>rfl
 | x :: l=>by rw [renL,zI ρ l];rfl
def Blk.ren (ρ : Nat -> Nat) : Blk -> Blk
 | .dead=>.dead
 | .free=>.free
 | .cells cs=>.cells (renL ρ cs)
 | .grow t nl els=>.grow t nl (renL ρ els)
 | .map es=>.map (es.map fun p=>(p.1,p.2.ren ρ))
 | .pm es=>.pm (es.map fun p=>(p.1,p.2.ren ρ))
 | .raw o=>.raw o
 | .lp st pend f tm ps x y n=>.lp st pend f (tm.map fun p=>(p.1,p.2.ren ρ)) ps x y n
theorem AV.ren_one (ρ : Nat -> Nat) (a : AV) : (a.ren ρ).one = a.one:=by cases a <;> rfl
theorem AV.ren_cells (ρ : Nat -> Nat) (a : AV) : (a.ren ρ).cells = a.cells.map (AV.ren ρ):=by
 cases a <;> first | rfl|(simp only [AV.ren,AV.cells,zI];rfl) | simp only [AV.ren,AV.cells,zI]
theorem kX (ρ : Nat -> Nat) (l : List AV) : flat (l.map (AV.ren ρ)) = (flat l).map (AV.ren ρ):=by
 induction l with
 | nil=>rfl
 | cons x l ih =>
   simp only [flat,List.map_cons,List.flatMap_cons,List.map_append] at ih ⊢
   rw [ih,AV.ren_cells]
theorem Blk.ren_free (ρ : Nat -> Nat) (x : Blk) : (x.ren ρ).isFree = x.isFree:=by cases x <;> rfl
theorem Blk.ren_rec (ρ : Nat -> Nat) (x : Blk) : (x.ren ρ).isRec = x.isRec:=by cases x <;> rfl
theorem Blk.ren_isMap (ρ : Nat -> Nat) (x : Blk) : (x.ren ρ).isMap = x.isMap:=by cases x <;> rfl
theorem AV.ren_low {ρ : Nat -> Nat} {n : Nat} (h : ∀ i,i < n -> ρ i = i) : ∀ {a : AV},a.low n = true -> a.ren ρ = a:=by
 intro a
 refine AV.rec (motive_1:=fun a=>a.low n = true -> a.ren ρ = a) (motive_2:=fun l=>lowL n l = true -> renL ρ l = l) ?_ ?_ ?_ ?_ ?_ ?_ ?_ ?_ ?_ ?_ ?_ ?_ ?_ ?_ ?_ ?_ ?_ ?_ ?_ ?_ ?_ a
 all_goals try (intros;rfl)
 ·intro i o hl;simp only [AV.low,decide_eq_true_eq] at hl;rw [AV.ren,h i hl]
 ·intro cs ih hl;rw [AV.ren,ih hl]
 ·intro nl cs ih hl;rw [AV.ren,ih hl]
 ·intro i o hl;simp only [AV.low,decide_eq_true_eq] at hl;rw [AV.ren,h i hl]
 ·intro i o e f hl;simp only [AV.low,decide_eq_true_eq] at hl;rw [AV.ren,h i hl]
 ·intro i hl;simp only [AV.low,decide_eq_true_eq] at hl;rw [AV.ren,h i hl]
 ·intro f cs ih hl;rw [AV.ren,ih hl]
 ·intro f cs ih hl;rw [AV.ren,ih hl]
 ·intro i m o n hl;simp only [AV.low,decide_eq_true_eq] at hl;rw [AV.ren,h i hl]
 ·intro i hl;simp only [AV.low,decide_eq_true_eq] at hl;rw [AV.ren,h i hl]
 ·intro cs ih hl;rw [AV.ren,ih hl]
 ·intro cs ih hl;rw [AV.ren,ih hl]
 ·intro ks cs ih hl;rw [AV.ren,ih hl]
 ·intro x l ih1 ih2 hl;simp only [lowL,Bool.and_eq_true] at hl;rw [renL,ih1 hl.1,ih2 hl.2]
theorem zcm {ρ : Nat -> Nat} {n : Nat} (h : ∀ i,i < n -> ρ i = i) {l : List AV} (hl : lowL n l = true) : renL ρ l = l:=by
 have:=AV.ren_low h (a:=.agg l) hl
 simpa [AV.ren] using this
structure Ren (ρ : Nat -> Nat) (β1 : Nat -> Value) (H1 : List Blk) (β : Nat -> Value) (H : List Blk) : Prop where
 m : ∀ (i : Nat) x1,H1[i]? = some x1 -> H[ρ i]? = some (x1.ren ρ)
 b : ∀ i,i < H1.length -> β (ρ i) = β1 i
section
variable {P : Program} {E : Env} {h : Nat -> Option Obj} {β β1 : Nat -> Value} {H H1 : List Blk} {w : World} {ρ : Nat -> Nat}
theorem Ren.live (R : Ren ρ β1 H1 β H) {i : Nat} (l : live H1 i) : live H (ρ i):=let ⟨x,h1,h2⟩:=l;⟨x.ren ρ,R.m i x h1,by rw [Blk.ren_free];exact h2⟩
theorem Ren.unlive (R : Ren ρ β1 H1 β H) {i : Nat} (l : GA.live H (ρ i)) (hi : i < H1.length) : GA.live H1 i:=by
 obtain ⟨x,h1,h2⟩:=l
 have h3:=R.m i _ (List.getElem?_eq_getElem hi)
 rw [h3] at h1;cases h1
 exact ⟨_,List.getElem?_eq_getElem hi,by rw [Blk.ren_free] at h2;exact h2⟩
theorem Ren.rep (R : Ren ρ β1 H1 β H) {a : AV} {v : Value} (x : Rep P h β1 H1 a v) : Rep P h β H (a.ren ρ) v:=by
 induction x with
 | bool b=>exact .bool b
 | int k n=>exact .int k n
 | nilp=>exact .nilp
 | @ptr i o b hi hb =>
   refine .ptr (R.live hi) fun cs e=>?_
   obtain ⟨x,hx,hf⟩:=hi
   rw [R.m i x hx] at e;rw [R.b i (List.getElem?_eq_some_iff.1 hx).1]
   cases x <;> simp only [Blk.ren,Option.some.injEq,reduceCtorEq] at e
   exact hb _ hx
 | pim us hone hb hc _ ih =>
   rw [AV.ren,zI]
   refine .pim us (fun x hx=>?_) hb (fun j x e=>?_) (fun j x e=>?_)
   ·obtain ⟨y,hy,rfl⟩:=List.mem_map.1 hx;rw [AV.ren_one];exact hone y hy
   ·rw [List.getElem?_map] at e;cases hq : ‹List AV›[j]? with | none=>simp [hq] at e | some y=>exact hc j y hq
   ·rw [List.getElem?_map] at e
    cases hq : ‹List AV›[j]? with
    | none=>simp [hq] at e
    | some y=>simp only [hq,Option.map_some,Option.some.injEq] at e;subst e;exact ih j y hq
 | slnil=>exact .slnil
 | slemp=>exact .slemp
 | @sl b off cap c t fz els w n us hn hne hb hw hw0 hone hcap hc _ ih =>
   rw [AV.ren,zI]
   refine .sl (w:=w) us (by rw [List.length_map];exact hn) (by simpa using hne) hb (fun e he=>?_) hw0 (fun x hx=>?_) (by rw [List.length_map];exact hcap) (fun j x e=>?_) (fun j x e=>?_)
   ·obtain ⟨y,hy,rfl⟩:=List.mem_map.1 he;rw [AV.ren_cells,List.length_map];exact hw y hy
   ·rw [kX] at hx;obtain ⟨y,hy,rfl⟩:=List.mem_map.1 hx;rw [AV.ren_one];exact hone y hy
   ·rw [kX,List.getElem?_map] at e;cases hq : (flat els)[j]? with | none=>simp [hq] at e | some y=>exact hc j y hq
   ·rw [kX,List.getElem?_map] at e
    cases hq : (flat els)[j]? with
    | none=>simp [hq] at e
    | some y=>simp only [hq,Option.map_some,Option.some.injEq] at e;subst e;exact ih j y hq
 | se=>exact .se
 | @gr i n v ho hi hv =>
   refine .gr ho (R.live hi) fun t nl els e=>?_
   obtain ⟨x,hx,hf⟩:=hi
   rw [R.m i x hx] at e;rw [R.b i (List.getElem?_eq_some_iff.1 hx).1]
   cases x <;> simp only [Blk.ren,Option.some.injEq,Blk.grow.injEq,reduceCtorEq] at e
   obtain ⟨rfl,rfl,rfl⟩:=e
   rw [zI,List.length_map];exact hv _ _ _ hx
 | @gp i n e o b q hi hv =>
   refine .gp (R.live hi) fun t nl els e=>?_
   obtain ⟨x,hx,hf⟩:=hi
   rw [R.m i x hx] at e;rw [R.b i (List.getElem?_eq_some_iff.1 hx).1]
   cases x <;> simp only [Blk.ren,Option.some.injEq,Blk.grow.injEq,reduceCtorEq] at e
   obtain ⟨rfl,rfl,rfl⟩:=e
   rw [zI,List.length_map];exact hv _ _ _ hx
 | nilm=>exact .nilm
 | @mp i r hi hb =>
   refine .mp (R.live hi) fun y e hy=>?_
   obtain ⟨x,hx,hf⟩:=hi
   rw [R.m i x hx] at e;rw [R.b i (List.getElem?_eq_some_iff.1 hx).1]
   cases e
   rw [Blk.ren_isMap] at hy
   exact hb _ hx hy
 | nilf=>exact .nilf
 | @yld i b hi hb =>
   refine .yld (R.live hi) fun y e hy=>?_
   obtain ⟨x,hx,hf⟩:=hi
   rw [R.m i x hx] at e;rw [R.b i (List.getElem?_eq_some_iff.1 hx).1]
   cases e
   rw [Blk.ren_rec] at hy
   exact hb _ hx hy
 | @fn f caps vs us hs hc _ ih =>
   rw [AV.ren,zI]
   refine .fn us (by rw [List.length_map];exact hs) (fun j x e=>?_) (fun j x e=>?_)
   ·rw [List.getElem?_map] at e;cases hq : caps[j]? with | none=>simp [hq] at e | some y=>exact hc j y hq
   ·rw [List.getElem?_map] at e
    cases hq : caps[j]? with
    | none=>simp [hq] at e
    | some y=>simp only [hq,Option.map_some,Option.some.injEq] at e;subst e;exact ih j y hq
 | @bf f caps vs us hs hc _ ih =>
   rw [AV.ren,zI]
   refine .bf us (by rw [List.length_map];exact hs) (fun j x e=>?_) (fun j x e=>?_)
   ·rw [List.getElem?_map] at e;cases hq : caps[j]? with | none=>simp [hq] at e | some y=>exact hc j y hq
   ·rw [List.getElem?_map] at e
    cases hq : caps[j]? with
    | none=>simp [hq] at e
    | some y=>simp only [hq,Option.map_some,Option.some.injEq] at e;subst e;exact ih j y hq
 | @os i m o n b q cap hi hn hc hg hz =>
   obtain ⟨x,hx,hf⟩:=id hi
   refine .os (R.live hi) hn (fun cs e hne=>?_) (fun t nl els e=>?_) fun ho t nl els e hlen=>?_
   ·rw [R.m i x hx] at e;rw [R.b i (List.getElem?_eq_some_iff.1 hx).1]
    cases x <;> simp only [Blk.ren,Option.some.injEq,reduceCtorEq] at e
    exact hc _ hx hne
   ·rw [R.m i x hx] at e;rw [R.b i (List.getElem?_eq_some_iff.1 hx).1]
    cases x <;> simp only [Blk.ren,Option.some.injEq,Blk.grow.injEq,reduceCtorEq] at e
    obtain ⟨rfl,rfl,rfl⟩:=e
    rw [zI,List.length_map];exact hg _ _ _ hx
   ·rw [R.m i x hx] at e;rw [R.b i (List.getElem?_eq_some_iff.1 hx).1]
    cases x <;> simp only [Blk.ren,Option.some.injEq,Blk.grow.injEq,reduceCtorEq] at e
    obtain ⟨rfl,rfl,rfl⟩:=e
    rw [zI,List.length_map] at hlen;exact hz ho _ _ _ hx hlen
 | @agg caps vs us hs hone hc _ ih =>
   rw [AV.ren,zI]
   refine .agg us (by rw [List.length_map];exact hs) (fun x hx=>?_) (fun j x e=>?_) (fun j x e=>?_)
   ·obtain ⟨y,hy,rfl⟩:=List.mem_map.1 hx;rw [AV.ren_one];exact hone y hy
   ·rw [List.getElem?_map] at e;cases hq : caps[j]? with | none=>simp [hq] at e | some y=>exact hc j y hq
   ·rw [List.getElem?_map] at e
    cases hq : caps[j]? with
    | none=>simp [hq] at e
    | some y=>simp only [hq,Option.map_some,Option.some.injEq] at e;subst e;exact ih j y hq
 | @tup caps vs us hs hc _ ih =>
   rw [AV.ren,zI]
   refine .tup us (by rw [List.length_map];exact hs) (fun j x e=>?_) (fun j x e=>?_)
   ·rw [List.getElem?_map] at e;cases hq : caps[j]? with | none=>simp [hq] at e | some y=>exact hc j y hq
   ·rw [List.getElem?_map] at e
    cases hq : caps[j]? with
    | none=>simp [hq] at e
    | some y=>simp only [hq,Option.map_some,Option.some.injEq] at e;subst e;exact ih j y hq
 | @im ks vs r ents clock us h0 h1 h2 h3 h4 _ ih =>
   rw [AV.ren,zI]
   refine .im us h0 (by rw [List.length_map];exact h1) h2 h3 (fun j q x e1 e2=>?_) (fun j x e=>?_)
   ·rw [List.getElem?_map] at e2;cases hq : vs[j]? with | none=>simp [hq] at e2 | some y=>exact h4 j q y e1 hq
   ·rw [List.getElem?_map] at e
    cases hq : vs[j]? with
    | none=>simp [hq] at e
    | some y=>simp only [hq,Option.map_some,Option.some.injEq] at e;subst e;exact ih j y hq
theorem kV {n : Nat} {l : List AV} (hl : lowL n l = true) {j : Nat} {x : AV} (e : l[j]? = some x) : x.low n = true:=zw.1 hl x (List.mem_of_getElem? e)
theorem yq {l : List AV} {j : Nat} {x : AV} (e : l[j]? = some x) : (l.map (AV.ren ρ))[j]? = some (x.ren ρ):=by rw [List.getElem?_map,e];rfl
theorem Ren.unrep (R : Ren ρ β1 H1 β H) {r : AV} {v : Value} (x : Rep P h β H r v) : ∀ {a : AV},a.ren ρ = r -> a.low H1.length = true -> Rep P h β1 H1 a v:=by
 induction x with
 | bool b=>intro a e hl;cases a <;> simp only [AV.ren,AV.bool.injEq,reduceCtorEq] at e;subst e;exact .bool _
 | int k n=>intro a e hl;cases a <;> simp only [AV.ren,AV.int.injEq,reduceCtorEq] at e;obtain ⟨rfl,rfl⟩:=e;exact .int _ _
 | nilp=>intro a e hl;cases a <;> simp only [AV.ren,reduceCtorEq] at e;exact .nilp
 | @ptr i o b hi hb =>
   intro a e hl;cases a <;> simp only [AV.ren,AV.ptr.injEq,reduceCtorEq] at e
   rename_i i0 o0
   obtain ⟨rfl,rfl⟩:=e
   simp only [AV.low,decide_eq_true_eq] at hl
   refine .ptr (R.unlive hi hl) fun cs e=>?_
   rw [<- R.b i0 hl];exact hb _ (R.m _ _ e)
 | @pim b off c t fz cs us hone hb hc _ ih =>
   intro a e hl;cases a <;> simp only [AV.ren,AV.pim.injEq,reduceCtorEq] at e
   rename_i cs0
   rw [zI] at e;subst e
   refine .pim us (fun x hx=>?_) hb (fun j x e=>?_) (fun j x e=>?_)
   ·rw [<- AV.ren_one ρ];exact hone _ (List.mem_map.2 ⟨x,hx,rfl⟩)
   ·exact hc j _ (yq e)
   ·exact ih j _ (yq e) rfl (kV hl e)
 | slnil=>intro a e hl;cases a <;> simp only [AV.ren,AV.sl.injEq,reduceCtorEq] at e;obtain ⟨rfl,e⟩:=e;rw [zI,List.map_eq_nil_iff] at e;subst e;exact .slnil
 | slemp=>intro a e hl;cases a <;> simp only [AV.ren,AV.sl.injEq,reduceCtorEq] at e;obtain ⟨rfl,e⟩:=e;rw [zI,List.map_eq_nil_iff] at e;subst e;exact .slemp
 | @sl b off cap c t fz els w n us hn hne hb hw hw0 hone hcap hc _ ih =>
   intro a e hl;cases a <;> simp only [AV.ren,AV.sl.injEq,reduceCtorEq] at e
   rename_i nl cs0
   obtain ⟨rfl,e⟩:=e
   rw [zI] at e;subst e
   rw [List.length_map] at hn hcap
   rw [kX] at hone hc
   refine .sl (w:=w) us hn (by simpa using hne) hb (fun e he=>?_) hw0 (fun x hx=>?_) hcap (fun j x e=>hc j _ (yq e)) (fun j x e=>?_)
   ·have:=hw _ (List.mem_map.2 ⟨e,he,rfl⟩);rwa [AV.ren_cells,List.length_map] at this
   ·rw [<- AV.ren_one ρ];exact hone _ (List.mem_map.2 ⟨x,hx,rfl⟩)
   ·exact ih j _ (by rw [kX];exact yq e) rfl (ju.1 hl x (List.mem_of_getElem? e))
 | se=>intro a e hl;cases a <;> simp only [AV.ren,reduceCtorEq] at e;exact .se
 | @gr i n v ho hi hv =>
   intro a e hl;cases a <;> simp only [AV.ren,AV.gr.injEq,reduceCtorEq] at e
   rename_i i0 o0
   obtain ⟨rfl,rfl⟩:=e
   simp only [AV.low,decide_eq_true_eq] at hl
   refine .gr ho (R.unlive hi hl) fun t nl els e=>?_
   rw [<- R.b i0 hl];have:=hv _ _ _ (R.m _ _ e);rwa [zI,List.length_map] at this
 | @gp i n e o b q hi hv =>
   intro a e hl;cases a <;> simp only [AV.ren,AV.gp.injEq,reduceCtorEq] at e
   rename_i i0 n0 e0 o0
   obtain ⟨rfl,rfl,rfl,rfl⟩:=e
   simp only [AV.low,decide_eq_true_eq] at hl
   refine .gp (R.unlive hi hl) fun t nl els e=>?_
   rw [<- R.b i0 hl];have:=hv _ _ _ (R.m _ _ e);rwa [zI,List.length_map] at this
 | nilm=>intro a e hl;cases a <;> simp only [AV.ren,reduceCtorEq] at e;exact .nilm
 | @mp i r hi hb =>
   intro a e hl;cases a <;> simp only [AV.ren,AV.mp.injEq,reduceCtorEq] at e
   subst e
   simp only [AV.low,decide_eq_true_eq] at hl
   refine .mp (R.unlive hi hl) fun x e hx=>?_
   rw [<- R.b _ hl];exact hb _ (R.m _ _ e) (by rw [Blk.ren_isMap];exact hx)
 | nilf=>intro a e hl;cases a <;> simp only [AV.ren,reduceCtorEq] at e;exact .nilf
 | @yld i b hi hb =>
   intro a e hl;cases a <;> simp only [AV.ren,AV.yld.injEq,reduceCtorEq] at e
   subst e
   simp only [AV.low,decide_eq_true_eq] at hl
   refine .yld (R.unlive hi hl) fun x e hx=>?_
   rw [<- R.b _ hl];exact hb _ (R.m _ _ e) (by rw [Blk.ren_rec];exact hx)
 | @fn f caps vs us hs hc _ ih =>
   intro a e hl;cases a <;> simp only [AV.ren,AV.fn.injEq,reduceCtorEq] at e
   rename_i f0 cs0
   obtain ⟨rfl,e⟩:=e
   rw [zI] at e;subst e
   exact .fn us (by rw [hs,List.length_map]) (fun j x e=>hc j _ (yq e)) (fun j x e=>ih j _ (yq e) rfl (kV hl e))
 | @bf f caps vs us hs hc _ ih =>
   intro a e hl;cases a <;> simp only [AV.ren,AV.bf.injEq,reduceCtorEq] at e
   rename_i f0 cs0
   obtain ⟨rfl,e⟩:=e
   rw [zI] at e;subst e
   exact .bf us (by rw [hs,List.length_map]) (fun j x e=>hc j _ (yq e)) (fun j x e=>ih j _ (yq e) rfl (kV hl e))
 | @os i m o n b q cap hi hn hc hg hz =>
   intro a e hl;cases a <;> simp only [AV.ren,AV.os.injEq,reduceCtorEq] at e
   rename_i i0 m0 o0 n0
   obtain ⟨rfl,rfl,rfl,rfl⟩:=e
   simp only [AV.low,decide_eq_true_eq] at hl
   refine .os (R.unlive hi hl) hn (fun cs e hne=>?_) (fun t nl els e=>?_) fun ho t nl els e hlen=>?_
   ·rw [<- R.b i0 hl];exact hc _ (R.m _ _ e) hne
   ·rw [<- R.b i0 hl];have:=hg _ _ _ (R.m _ _ e);rwa [zI,List.length_map] at this
   ·rw [<- R.b i0 hl];have:=hz ho _ _ _ (R.m _ _ e);rw [zI,List.length_map] at this;exact this hlen
 | @agg caps vs us hs hone hc _ ih =>
   intro a e hl;cases a <;> simp only [AV.ren,AV.agg.injEq,reduceCtorEq] at e
   rename_i cs0
   rw [zI] at e;subst e
   exact .agg us (by rw [hs,List.length_map]) (fun x hx=>by rw [<- AV.ren_one ρ];exact hone _ (List.mem_map.2 ⟨x,hx,rfl⟩)) (fun j x e=>hc j _ (yq e)) (fun j x e=>ih j _ (yq e) rfl (kV hl e))
 | @tup caps vs us hs hc _ ih =>
   intro a e hl;cases a <;> simp only [AV.ren,AV.tup.injEq,reduceCtorEq] at e
   rename_i cs0
   rw [zI] at e;subst e
   exact .tup us (by rw [hs,List.length_map]) (fun j x e=>hc j _ (yq e)) (fun j x e=>ih j _ (yq e) rfl (kV hl e))
 | @im ks vs r ents clock us h0 h1 h2 h3 h4 _ ih =>
   intro a e hl;cases a <;> simp only [AV.ren,AV.im.injEq,reduceCtorEq] at e
   rename_i ks0 cs0
   obtain ⟨rfl,e⟩:=e
   rw [zI] at e;subst e
   rw [List.length_map] at h1
   exact .im us h0 h1 h2 h3 (fun j q x e1 e2=>h4 j q _ e1 (yq e2)) (fun j x e=>ih j _ (yq e) rfl (kV hl e))
theorem Ren.cells (R : Ren ρ β1 H1 β H) {cs : List AV} {c : Array Value} (k : zS P h β1 H1 cs c) : zS P h β H (cs.map (AV.ren ρ)) c:=by
 obtain ⟨us,a,b⟩:=k
 refine ⟨us,fun j x e=>?_,fun j x e=>?_⟩ <;> (rw [List.getElem?_map] at e;cases hq : cs[j]? with | none=>simp [hq] at e | some y=>?_)
 ·exact a j y hq
 ·simp only [hq,Option.map_some,Option.some.injEq] at e;subst e;exact R.rep (b j y hq)
theorem Ren.uncells (R : Ren ρ β1 H1 β H) {cs : List AV} {c : Array Value} (hl : lowL H1.length cs = true) (k : zS P h β H (cs.map (AV.ren ρ)) c) : zS P h β1 H1 cs c:=by
 obtain ⟨us,a,b⟩:=k
 exact ⟨us,fun j x e=>a j _ (yq e),fun j x e=>R.unrep (b j _ (yq e)) rfl (kV hl e)⟩
theorem Ren.blk (R : Ren ρ β1 H1 β H) {heap : Array Obj} {i : Nat} (hi : i < H1.length) {x : Blk} (k : kD P h β1 H1 heap i x) : kD P h β H heap (ρ i) (x.ren ρ):=by
 have hb:=R.b i hi
 cases x with
 | dead=>trivial
 | free=>trivial
 | cells cs =>
   obtain ⟨b,c,t,h1,h2,h3,h4,h5⟩:=k
   rw [Blk.ren,zI]
   refine ⟨b,c,t,hb.trans h1,h2,by rw [h3,List.length_map],fun x hx=>?_,R.cells h5⟩
   obtain ⟨y,hy,rfl⟩:=List.mem_map.1 hx;rw [AV.ren_one];exact h4 y hy
 | grow t nl els =>
   rw [Blk.ren,zI]
   rcases k with ⟨h1,h2,h3⟩ | ⟨h1,h2,a,h3⟩ | ⟨h1,b,cap,c,h2,h3,h4,h5,h6,h7,h8,h9,h10,h11⟩
   ·exact .inl ⟨h1,by rw [h2];rfl,hb.trans h3⟩
   ·exact .inr (.inl ⟨h1,by rw [h2];rfl,a,hb.trans h3⟩)
   ·refine .inr (.inr ⟨h1,b,cap,c,by rw [hb,h2,List.length_map],h3,h4,by rw [List.length_map];exact h5,h6,h7,h8,fun e he=>?_,fun x hx=>?_,by rw [kX];exact R.cells h11⟩)
    ·obtain ⟨y,hy,rfl⟩:=List.mem_map.1 he;rw [AV.ren_cells,List.length_map];exact h9 y hy
    ·rw [kX] at hx;obtain ⟨y,hy,rfl⟩:=List.mem_map.1 hx;rw [AV.ren_one];exact h10 y hy
 | map es =>
   obtain ⟨r,ents,clock,h1,h2,h3,h4,us,h5⟩:=k
   refine ⟨r,ents,clock,hb.trans h1,h2,?_,by rw [h4,List.length_map],us,fun j q x e=>?_⟩
   ·rw [List.map_map];exact h3
   ·rw [List.getElem?_map] at e
    cases hq : es[j]? with
    | none=>simp [hq] at e
    | some y =>
      obtain ⟨a,b⟩:=y
      simp only [hq,Option.map_some,Option.some.injEq,Prod.mk.injEq] at e
      obtain ⟨rfl,rfl⟩:=e
      obtain ⟨h6,h7⟩:=h5 j _ _ hq
      exact ⟨R.rep h6,h7⟩
 | pm es =>
   obtain ⟨r,ents,clock,h1,h2,h3,h4,us,h5⟩:=k
   refine ⟨r,ents,clock,hb.trans h1,h2,?_,by rw [h4,List.length_map],us,fun j q x e=>?_⟩
   ·rw [List.map_map];exact h3
   ·rw [List.getElem?_map] at e
    cases hq : es[j]? with
    | none=>simp [hq] at e
    | some y =>
      obtain ⟨a,b⟩:=y
      simp only [hq,Option.map_some,Option.some.injEq,Prod.mk.injEq] at e
      obtain ⟨rfl,rfl⟩:=e
      obtain ⟨h6,h7⟩:=h5 j _ _ hq
      exact ⟨R.rep h6,h7⟩
 | raw o=>obtain ⟨b,h1,h2⟩:=k;exact ⟨b,hb.trans h1,h2⟩
 | lp st pend f tm ps x y n =>
   obtain ⟨b,dfr,tmps,h1,h2,h3,h4⟩:=k
   refine ⟨b,dfr,tmps,hb.trans h1,h2,h3,fun t r e=>?_⟩
   obtain ⟨⟨t',r'⟩,hm,he⟩:=List.mem_map.1 e
   simp only [Prod.mk.injEq] at he;obtain ⟨rfl,rfl⟩:=he
   obtain ⟨v,h5,h6⟩:=h4 _ _ hm
   exact ⟨v,h5,R.rep h6⟩
theorem Ren.unblk (R : Ren ρ β1 H1 β H) {heap : Array Obj} {i : Nat} (hi : i < H1.length) {x : Blk} (hl : x.low H1.length = true) (k : kD P h β H heap (ρ i) (x.ren ρ)) : kD P h β1 H1 heap i x:=by
 have hb:=R.b i hi
 cases x with
 | dead=>trivial
 | free=>trivial
 | cells cs =>
   rw [Blk.ren,zI] at k
   obtain ⟨b,c,t,h1,h2,h3,h4,h5⟩:=k
   exact ⟨b,c,t,hb.symm.trans h1,h2,by rw [h3,List.length_map],fun x hx=>by rw [<- AV.ren_one ρ];exact h4 _ (List.mem_map.2 ⟨x,hx,rfl⟩),R.uncells hl h5⟩
 | grow t nl els =>
   rw [Blk.ren,zI] at k
   rcases k with ⟨h1,h2,h3⟩ | ⟨h1,h2,a,h3⟩ | ⟨h1,b,cap,c,h2,h3,h4,h5,h6,h7,h8,h9,h10,h11⟩
   ·exact .inl ⟨h1,List.map_eq_nil_iff.1 h2,hb.symm.trans h3⟩
   ·exact .inr (.inl ⟨h1,List.map_eq_nil_iff.1 h2,a,hb.symm.trans h3⟩)
   ·rw [List.length_map] at h2 h5
    rw [kX] at h10 h11
    refine .inr (.inr ⟨h1,b,cap,c,hb.symm.trans h2,h3,h4,h5,h6,h7,h8,fun e he=>?_,fun x hx=>?_,R.uncells ?_ h11⟩)
    ·have:=h9 _ (List.mem_map.2 ⟨e,he,rfl⟩);rwa [AV.ren_cells,List.length_map] at this
    ·rw [<- AV.ren_one ρ];exact h10 _ (List.mem_map.2 ⟨x,hx,rfl⟩)
    ·exact zw.2 (ju.1 hl)
 | map es =>
   obtain ⟨r,ents,clock,h1,h2,h3,h4,us,h5⟩:=k
   refine ⟨r,ents,clock,hb.symm.trans h1,h2,?_,by rw [h4,List.length_map],us,fun j q x e=>?_⟩
   ·rw [List.map_map] at h3;exact h3
   ·obtain ⟨h6,h7⟩:=h5 j q (x.ren ρ) (by rw [List.getElem?_map,e];rfl)
    refine ⟨R.unrep h6 rfl ?_,h7⟩
    exact zw.1 hl x (List.mem_map.2 ⟨(q,x),List.mem_of_getElem? e,rfl⟩)
 | pm es =>
   obtain ⟨r,ents,clock,h1,h2,h3,h4,us,h5⟩:=k
   refine ⟨r,ents,clock,hb.symm.trans h1,h2,?_,by rw [h4,List.length_map],us,fun j q x e=>?_⟩
   ·rw [List.map_map] at h3;exact h3
   ·obtain ⟨h6,h7⟩:=h5 j q (x.ren ρ) (by rw [List.getElem?_map,e];rfl)
    refine ⟨R.unrep h6 rfl ?_,h7⟩
    exact zw.1 hl x (List.mem_map.2 ⟨(q,x),List.mem_of_getElem? e,rfl⟩)
 | raw o=>obtain ⟨b,h1,h2⟩:=k;exact ⟨b,hb.symm.trans h1,h2⟩
 | lp st pend f tm ps x y n =>
   obtain ⟨b,dfr,tmps,h1,h2,h3,h4⟩:=k
   refine ⟨b,dfr,tmps,hb.symm.trans h1,h2,h3,fun t r e=>?_⟩
   obtain ⟨v,h5,h6⟩:=h4 t (r.ren ρ) (List.mem_map.2 ⟨(t,r),e,rfl⟩)
   exact ⟨v,h5,R.unrep h6 rfl (zw.1 hl r (List.mem_map.2 ⟨(t,r),e,rfl⟩))⟩
theorem Ren.blkOf (R : Ren ρ β1 H1 β H) {i : Nat} (hi : i < H1.length) : GA.blkOf β H (ρ i) = GA.blkOf β1 H1 i:=by
 have h1:=R.m i _ (List.getElem?_eq_getElem hi)
 unfold GA.blkOf
 rw [h1,List.getElem?_eq_getElem hi,R.b i hi]
 generalize H1[i] = x
 cases x <;> rfl
theorem Ren.to {x x' : Blk} {β' β1' : Nat -> Value} {i : Nat} (h1 : β (ρ i) = β1 i) (h2 : β' (ρ i) = β1' i) (k : x.to β1 β1' i x') : (x.ren ρ).to β β' (ρ i) (x'.ren ρ):=by
 cases x with
 | dead=>simp only [Blk.to] at k;subst k;rfl
 | free=>trivial
 | cells cs =>
   rcases k with rfl | ⟨cs',rfl,hb⟩
   ·exact .inl rfl
   ·exact .inr ⟨_,rfl,by rw [h1,h2];exact hb⟩
 | grow t nl els =>
   rcases k with rfl | ⟨nl',els',rfl,hl,hb⟩
   ·exact .inl rfl
   ·exact .inr ⟨_,_,rfl,by simp only [zI,List.length_map];exact hl,fun e=>by rw [h1,h2];simp only [zI,List.length_map] at e;exact hb e⟩
 | map es =>
   rcases k with rfl | ⟨cs',rfl,hb⟩
   ·exact .inl rfl
   ·exact .inr ⟨_,rfl,by rw [h1,h2];exact hb⟩
 | pm es =>
   rcases k with rfl | ⟨cs',rfl,hb⟩
   ·exact .inl rfl
   ·exact .inr ⟨_,rfl,by rw [h1,h2];exact hb⟩
 | raw o =>
   rcases k with rfl | ⟨cs',rfl,hb⟩
   ·exact .inl rfl
   ·exact .inr ⟨_,rfl,by rw [h1,h2];exact hb⟩
 | lp st pend f tm ps x y n =>
   rcases k with rfl | ⟨st',pend',rfl,hb⟩
   ·exact .inl rfl
   ·exact .inr ⟨_,_,rfl,by rw [h1,h2];exact hb⟩
theorem Ren.sr (R : Ren ρ β1 H1 β H) (s : SR P E h β H w) (inj : ∀ i j,i < H1.length -> j < H1.length -> ρ i = ρ j -> i = j) (lo : ∀ x ∈ H1,x.low H1.length = true) : SR P E h β1 H1 w:=by
 have hlt : ∀ {i x},GA.blkOf β1 H1 i = some x -> i < H1.length:=fun e=>(yN e).1
 refine ⟨s.env,s.imm,fun i x e=>?_,fun i j x e1 e2=>?_,fun i x e=>?_,s.frm,fun i x e=>?_⟩
 ·have hi:=(List.getElem?_eq_some_iff.1 e).1
  exact R.unblk hi (lo x (List.mem_of_getElem? e)) (s.blk _ _ (R.m i x e))
 ·exact inj i j (hlt e1) (hlt e2) (s.own _ _ x (by rw [R.blkOf (hlt e1)];exact e1) (by rw [R.blkOf (hlt e2)];exact e2))
 ·exact s.fresh (ρ i) x (by rw [R.blkOf (hlt e)];exact e)
 ·exact s.fro (ρ i) x (by rw [R.blkOf (hlt e)];exact e)
noncomputable def othE (E : Env) (β : Nat -> Value) (H : List Blk) (w : World) (im : Nat -> Prop) : Env:=by
 classical exact ⟨E.b,fun b=>if ∃ j,¬ im j /\ GA.blkOf β H j = some b then w.heap[b]? else E.fr b,E.en⟩
theorem v6 {im : Nat -> Prop} {b j : Nat} (hj : ¬ im j) (hb : GA.blkOf β H j = some b) : (othE E β H w im).fr b = w.heap[b]?:=by
 simp only [othE];rw [if_pos ⟨j,hj,hb⟩]
theorem qT {im : Nat -> Prop} {b : Nat} (hn : ∀ j,¬ im j -> GA.blkOf β H j ≠ some b) : (othE E β H w im).fr b = E.fr b:=by
 simp only [othE];rw [if_neg (fun ⟨j,h1,h2⟩=>hn j h1 h2)]
theorem Ren.srE (R : Ren ρ β1 H1 β H) (s : SR P E h β H w) (inj : ∀ i j,i < H1.length -> j < H1.length -> ρ i = ρ j -> i = j) (lo : ∀ x ∈ H1,x.low H1.length = true) :
  SR P (othE E β H w fun j=>∃ i,i < H1.length /\ ρ i = j) h β1 H1 w:=by
 have s1:=R.sr s inj lo
 refine ⟨s1.env,s1.imm,s1.blk,s1.own,s1.fresh,fun b o e=>?_,fun i x e=>?_⟩
 ·by_cases hh : ∃ j,¬ (∃ i,i < H1.length /\ ρ i = j) /\ GA.blkOf β H j = some b
  ·obtain ⟨j,h1,h2⟩:=hh
   rw [v6 h1 h2] at e
   exact ⟨e,s.fresh _ _ h2⟩
  ·rw [qT (fun j h1 h2=>hh ⟨j,h1,h2⟩)] at e;exact s.frm b o e
 ·have hi:=(yN e).1
  have hb:=R.blkOf hi
  rw [qT]
  ·exact s.fro (ρ i) x (by rw [hb];exact e)
  ·intro j h1 h2
   exact h1 ⟨i,hi,s.own _ _ x (by rw [hb];exact e) h2⟩
theorem z7.frame {f : FuncId} {rs1 : List AV} {k1 k : AV -> List Blk -> Prop} (x : z7 P f rs1 H1 k1)
  (inj : ∀ i j,i < H1.length -> j < H1.length -> ρ i = ρ j -> i = j) (hm : ∀ (i : Nat) x1,H1[i]? = some x1 -> H[ρ i]? = some (x1.ren ρ))
  (lo : ∀ x ∈ H1,x.low H1.length = true) (lor : lowL H1.length rs1 = true)
  (hk : ∀ r1 H1',k1 r1 H1' -> H1'.length = H1.length /\ ∃ H',H'.length = H.length /\ (∀ (i : Nat) x1,H1'[i]? = some x1 -> H'[ρ i]? = some (x1.ren ρ)) /\ (∀ j,(∀ i,i < H1.length -> ρ i ≠ j) -> H'[j]? = H[j]?) /\ k (r1.ren ρ) H') :
  z7 P f (rs1.map (AV.ren ρ)) H k:=by
 refine ⟨x.1,fun E h β w vs s hr=>?_⟩
 have R : Ren ρ (fun i=>β (ρ i)) H1 β H:=⟨hm,fun _ _=>rfl⟩
 have s1:=R.srE s inj lo
 have hr1 : RepL P h (fun i=>β (ρ i)) H1 rs1 vs:=⟨by rw [hr.1,List.length_map],fun j r e=>by
  obtain ⟨v,h1,h2⟩:=hr.2 j _ (yq e)
  exact ⟨v,h1,R.unrep h2 rfl (kV lor e)⟩⟩
 refine (x.2 _ h _ w vs s1 hr1).mono ?_
 rintro e w' ⟨r1,H1',h',β1',v,rfl,q,X,s',hv⟩
 obtain ⟨hlen,H',hlen',hm',ho,hk'⟩:=hk r1 H1' q
 classical
 let β' : Nat -> Value:=fun j=>if hj : ∃ i,i < H1.length /\ ρ i = j then β1' (Classical.choose hj) else β j
 have hβ1 : ∀ i,i < H1.length -> β' (ρ i) = β1' i:=by
  intro i hi
  have hj : ∃ i',i' < H1.length /\ ρ i' = ρ i:=⟨i,hi,rfl⟩
  simp only [β',dif_pos hj]
  rw [inj _ _ (Classical.choose_spec hj).1 hi (Classical.choose_spec hj).2]
 have hβ2 : ∀ j,(∀ i,i < H1.length -> ρ i ≠ j) -> β' j = β j:=by
  intro j hj
  have hn : ¬ ∃ i,i < H1.length /\ ρ i = j:=fun ⟨i,h1,h2⟩=>hj i h1 h2
  simp only [β',dif_neg hn]
 have R' : Ren ρ β1' H1' β' H':=⟨hm',fun i hi=>hβ1 i (by omega)⟩
 have im : ∀ j,(∃ i,i < H1.length /\ ρ i = j) \/ ∀ i,i < H1.length -> ρ i ≠ j:=by
  intro j
  by_cases hj : ∃ i,i < H1.length /\ ρ i = j
  ·exact .inl hj
  ·exact .inr fun i hi e=>hj ⟨i,hi,e⟩
 have X' : Ext h β H h' β' H':=by
  refine ⟨X.imm,by omega,fun j y y' e e'=>?_⟩
  rcases im j with ⟨i,hi,rfl⟩ | hj
  ·have h1 : H1[i]? = some H1[i]:=List.getElem?_eq_getElem hi
   have h2 : H1'[i]? = some (H1'[i]'(by omega)):=List.getElem?_eq_getElem (by omega)
   rw [hm i _ h1] at e;cases e
   rw [hm' i _ h2] at e';cases e'
   exact Ren.to (β1:=fun i=>β (ρ i)) rfl (hβ1 i hi) (X.to i _ _ h1 h2)
  ·rw [ho j hj,e] at e';cases e'
   have:=Blk.to_refl β j y
   cases y with
   | dead=>rfl
   | free=>trivial
   | cells cs=>exact .inr ⟨_,rfl,hβ2 j hj⟩
   | grow t nl els=>exact .inr ⟨_,_,rfl,Nat.le_refl _,fun _=>hβ2 j hj⟩
   | map es=>exact .inr ⟨_,rfl,hβ2 j hj⟩
   | pm es=>exact .inr ⟨_,rfl,hβ2 j hj⟩
   | raw o=>exact .inr ⟨_,rfl,hβ2 j hj⟩
   | lp st pend f tm ps x y n=>exact .inr ⟨_,_,rfl,hβ2 j hj⟩
 have hb1 : ∀ i,i < H1.length -> GA.blkOf β' H' (ρ i) = GA.blkOf β1' H1' i:=fun i hi=>R'.blkOf (by omega)
 have hb2 : ∀ j,(∀ i,i < H1.length -> ρ i ≠ j) -> GA.blkOf β' H' j = GA.blkOf β H j:=fun j hj=>kg (hβ2 j hj) (ho j hj)
 have hsome : ∀ j b,GA.blkOf β H j = some b -> ∃ o,w.heap[b]? = some o:=fun j b e=>⟨_,Array.getElem?_eq_getElem (s.lt e)⟩
 have hfr : ∀ j b o,(∀ i,i < H1.length -> ρ i ≠ j) -> GA.blkOf β H j = some b -> w.heap[b]? = some o -> w'.heap[b]? = some o /\ h' b = none:=by
  intro j b o hj e eo
  refine s'.frm b o ?_
  rw [v6 (j:=j) (fun ⟨i,h1,h2⟩=>hj i h1 h2) e];exact eo
 have hE : ∀ b o,E.fr b = some o -> (othE E β H w fun j=>∃ i,i < H1.length /\ ρ i = j).fr b = some o:=by
  intro b o e
  rw [qT]
  ·exact e
  ·intro j _ h2;rw [s.fro j b h2] at e;cases e
 refine ⟨r1.ren ρ,H',h',β',v,rfl,hk',X',?_,R'.rep hv⟩
 refine ⟨s'.env,s'.imm,fun j y e=>?_,fun i j b e1 e2=>?_,fun j b e=>?_,fun b o e=>s'.frm b o (hE b o e),fun j b e=>?_⟩
 ·rcases im j with ⟨i,hi,rfl⟩ | hj
  ·have h2 : H1'[i]? = some (H1'[i]'(by omega)):=List.getElem?_eq_getElem (by omega)
   rw [hm' i _ h2] at e;cases e
   exact R'.blk (by omega) (s'.blk i _ h2)
  ·rw [ho j hj] at e
   refine (s.blk j y e).keep X' (hβ2 j hj) fun hd hd' b hb=>?_
   have hbo : GA.blkOf β H j = some b:=by unfold GA.blkOf;rw [e];cases y <;> first|exact absurd rfl hd|exact absurd rfl hd'|exact hb
   obtain ⟨o,ho'⟩:=hsome j b hbo
   rw [ho',(hfr j b o hj hbo ho').1]
 ·rcases im i with ⟨i0,hi,rfl⟩ | hi <;> rcases im j with ⟨j0,hj,rfl⟩ | hj
  ·rw [hb1 i0 hi] at e1;rw [hb1 j0 hj] at e2
   rw [s'.own _ _ b e1 e2]
  ·rw [hb1 i0 hi] at e1;rw [hb2 j hj] at e2
   obtain ⟨o,ho'⟩:=hsome j b e2
   have h3:=s'.fro _ _ e1
   rw [v6 (j:=j) (fun ⟨i,h1,h2⟩=>hj i h1 h2) e2,ho'] at h3;cases h3
  ·rw [hb2 i hi] at e1;rw [hb1 j0 hj] at e2
   obtain ⟨o,ho'⟩:=hsome i b e1
   have h3:=s'.fro _ _ e2
   rw [v6 (j:=i) (fun ⟨i',h1,h2⟩=>hi i' h1 h2) e1,ho'] at h3;cases h3
  ·rw [hb2 i hi] at e1;rw [hb2 j hj] at e2
   exact s.own _ _ b e1 e2
 ·rcases im j with ⟨i,hi,rfl⟩ | hj
  ·rw [hb1 i hi] at e;exact s'.fresh _ _ e
  ·rw [hb2 j hj] at e
   obtain ⟨o,ho'⟩:=hsome j b e
   exact (hfr j b o hj e ho').2
 ·rcases im j with ⟨i,hi,rfl⟩ | hj
  ·rw [hb1 i hi] at e
   have h3:=s'.fro _ _ e
   cases hx : E.fr b with
   | none=>rfl
   | some o=>rw [hE b o hx] at h3;cases h3
  ·rw [hb2 j hj] at e;exact s.fro _ _ e
end
end GA
end
section
namespace GA
open Go Go.RowKit
section
variable {P : Program} {T : Tab} {N : Nat} {ρ : Option Nat} {own : List Nat} {D : List Nat} {σ : St} {H : List Blk} {Q : Post} {E : Env} {h : Nat -> Option Obj} {β : Nat -> Value} {w : World}
def rnF (l : List Nat) (i : Nat) : Nat:=match lget l i with | some j=>j | none=>i
theorem fZ {f : Nat -> Nat} {n : Nat} {α : Type} (h : ∀ i,i < n -> f i = i) {es : List (α × AV)} (hl : lowL n (es.map (·.2)) = true) : (es.map fun p=>(p.1,p.2.ren f)) = es:=by
 have : ∀ p ∈ es,(fun p : α × AV=>(p.1,p.2.ren f)) p = id p:=fun p hp=>by
  have:=zw.1 hl p.2 (List.mem_map.2 ⟨p,hp,rfl⟩)
  simp only [id,AV.ren_low h this]
 rw [List.map_congr_left this,List.map_id]
theorem Blk.ren_low {f : Nat -> Nat} {n : Nat} (h : ∀ i,i < n -> f i = i) {x : Blk} (hl : x.low n = true) : x.ren f = x:=by
 cases x with
 | cells cs=>simp only [Blk.ren];rw [zcm h hl]
 | grow t nl els=>simp only [Blk.ren];rw [zcm h hl]
 | map es=>simp only [Blk.ren];rw [fZ h hl]
 | pm es=>simp only [Blk.ren];rw [fZ h hl]
 | lp st pend f tm ps x y n=>simp only [Blk.ren];rw [fZ h hl]
 | _=>rfl
theorem opLoad_ex {t : TypeId} {p : AV} {k : AV -> Prop} (x : kb P t H p k) : ∃ r,k r /\ ∀ k' : AV -> Prop,k' r -> kb P t H p k':=by
 unfold kb at x
 obtain ⟨ti,h1,x⟩:=zf x
 obtain ⟨cs,h2,x⟩:=zf x
 split at x
 ·rename_i e
  exact ⟨_,x.2,fun k' hk=>by unfold kb;rw [h1,zu,h2,zu,if_pos e];exact ⟨x.1,hk⟩⟩
 ·rename_i e
  obtain ⟨c,h3,x⟩:=zf x
  exact ⟨c,x,fun k' hk=>by unfold kb;rw [h1,zu,h2,zu,if_neg e,h3,zu];exact hk⟩
theorem zbe : ∀ {l : List ResultVar} {k : List AV -> Prop},resA P σ H l k -> ∃ rs,k rs /\ ∀ k' : List AV -> Prop,k' rs -> resA P σ H l k'
 | [],k,x=>⟨[],x,fun _ h=>h⟩
 | .tmp t :: l,k,x=>by
   obtain ⟨r,h1,x⟩:=zf x
   obtain ⟨rs,h2,h3⟩:=zbe x
   exact ⟨r :: rs,h2,fun k' h=>by simp only [resA];rw [h1,zu];exact h3 (fun rs=>k' (r :: rs)) h⟩
 | .cell a t :: l,k,x=>by
   obtain ⟨p,h1,x⟩:=zf x
   obtain ⟨r,x,h4⟩:=opLoad_ex x
   obtain ⟨rs,h2,h3⟩:=zbe x
   exact ⟨r :: rs,h2,fun k' h=>by simp only [resA];rw [h1,zu];exact h4 _ (h3 (fun rs=>k' (r :: rs)) h)⟩
structure XCut (n : Nat) (D : List Nat) (H : List Blk) (r : AV) (k : AV -> List Blk -> Prop) : Prop where
 o : ∃ H1 l,H = H1 ++ l /\ H1.length = n /\ (∀ x ∈ H1,x.low n = true) /\ D.Nodup /\ (∀ i ∈ D,n <= i /\ H[i]? = some (.raw (.deferred (some [])))) /\ r.low n = true /\ k r H1
def XFk (T : Tab) (res : List ResultVar) (n : Nat) (k : AV -> List Blk -> Prop) : Post:=fun e D σ H =>
 match e with
 | .normal | .ret=>xRes T σ H res fun rs=>XCut n D H (pack rs) k
 | _=>False
theorem z7.bodyK {f : FuncId} {fn : Func} {c : Code} {rs : List AV} {res : List ResultVar} {k : AV -> List Blk -> Prop} (ok : zH P T) (own : List Nat) (hf : P.funcs[f]? = some fn) (hb : fn.body = some c) (hn : (fn.name == "runtime.NumGoroutine") = false)
  (hN : fn.ntmps = N) (hr : fn.results = res.toArray) (hl : rs.length <= N) (x : XRun P T N none own c (XFk T res H.length k) [] (argX rs) H) : z7 P f rs H k:=by
 subst hN
 refine z7.of_body hf hb hn hl ?_
 rw [hr,<- zbY]
 refine (XRun.sound ok x).mono fun e D σ H' q=>?_
 have go : xRes T σ H' res (fun rs=>XCut H.length D H' (pack rs) k) -> ∃ H1 l,H' = H1 ++ l /\ H.length <= H1.length /\ (∀ x ∈ H1,x ∈ H \/ x.low H1.length = true) /\ D.Nodup /\
  (∀ i ∈ D,H1.length <= i /\ H'[i]? = some (.raw (.deferred (some [])))) /\ resA P σ H' res fun rs=>(pack rs).low H1.length = true /\ k (pack rs) H1:=by
  intro x
  obtain ⟨rs,⟨H1,l,h1,h2,h3,h4,h5,h6,h7⟩,hx⟩:=zbe (wG ok x)
  exact ⟨H1,l,h1,by omega,fun x hx=>.inr (by rw [h2];exact h3 x hx),h4,by rw [h2];exact h5,hx _ ⟨by rw [h2];exact h6,h7⟩⟩
 cases e <;> first|exact ⟨.inl rfl,go q⟩|exact ⟨.inr rfl,go q⟩|exact q.elim
theorem XCut.mk' {n : Nat} {H : List Blk} {r : AV} {k : AV -> List Blk -> Prop} (H1 l : List Blk) (h1 : H1 ++ l = H) (h2 : H1.length = n) (h3 : ∀ x ∈ H1,x.low n = true) (h4 : r.low n = true) (h5 : k r H1) : XCut n [] H r k:=
 ⟨H1,l,h1.symm,h2,h3,by simp,by simp,h4,h5⟩
end
end GA
end
section
namespace GA
open Go Go.RowKit
section
variable {P : Program} {T : Tab} {N : Nat} {ρ : Option Nat} {own : List Nat} {D : List Nat} {σ : St} {H : List Blk} {Q : Post} {E : Env} {h : Nat -> Option Obj} {β : Nat -> Value} {w : World} {a : Act}
theorem Walk.norm {id : Nat} {ops : Array Oper} (ok : zH P T) (own : List Nat) (L : List (Nat × AV)) (hs : SubX L σ) (x : XReg P T N own ops.toList ops.toList (stX L) H (Q .normal D)) : Walk P N ρ (.region id ops false) Q D σ H:=
 ⟨AWp.weaken (kR hs) (AWp.regionX ok x)⟩
end
end GA
end
section
namespace GA
open Go Go.RowKit Go.ChangeShapes Go.WideShapes
section
variable {P : Program} {W : World}
theorem SR.start (W : World) : SR P ⟨World.env W,fun _=>none,fun _=>none⟩ (fun b=>W.heap[b]?) (fun _=>undef) [] W:=
 ⟨rfl,fun _ _ h=>h,by simp,fun i j x e=>by simp [blkOf] at e,fun i x e=>by simp [blkOf] at e,by simp,fun i x e=>by simp [blkOf] at e⟩
theorem Comp.law {f : FuncId} {rs : List AV} (x : Comp P f rs (.bool true)) {args : Array Value} (hr : RepL P (fun b=>W.heap[b]?) (fun _=>undef) [] rs args.toList) :
  Calls P f args W fun e W'=>e = .returned (.bool true) /\ World.env W' = World.env W /\ ∀ (b : Nat) o,W.heap[b]? = some o -> W'.heap[b]? = some o:=by
 have h:=(x.o.2 _ _ _ W args.toList (SR.start W) hr).calls (fun _ _ hd=>by cases hd)
 have e : args.toList.toArray = args:=by simp
 rw [e] at h
 refine h.mono ?_
 rintro e w' ⟨r,H',h',β',v,rfl,⟨rfl,rfl⟩,X,s',hv⟩
 cases hv
 exact ⟨rfl,s'.env,fun b o hb=>s'.imm b o (X.imm b o hb)⟩
theorem zdA {W' : World} {may : MemPlace -> Prop} (he : World.env W' = World.env W) (hk : ∀ (b : Nat) o,W.heap[b]? = some o -> W'.heap[b]? = some o) : W.keptBut W' may:=by
 refine ⟨congrArg Env0.os he,congrArg Env0.out he,fun i hi=>?_⟩
 have h1 : W.heap[i]? = some W.heap[i]:=Array.getElem?_eq_getElem hi
 have h2:=hk i _ h1
 rw [h1,h2]
 generalize W.heap[i] = o
 cases o <;> simp
theorem vw {H : Type} {enc : TypeId × Value -> H} (hl : laidOutB P = true) {W' : World} {sp' : Nat -> Bool} (hk : ∀ (b : Nat) o,W.heap[b]? = some o -> W'.heap[b]? = some o) (hwt : ∀ p,(∃ o,W.heap[MemPlace.block p]? = some o) -> sp' p.block = true) :
  ∀ {ts : List TypeId} {vs : List Value} {ds : List (DataW H)} {ps : List MemPlace},(∀ t ∈ ts,P.readableRec t = true /\ t < P.types.size) -> (∀ p ∈ ps,∃ o,W.heap[MemPlace.block p]? = some o) -> DataW.TrodAll enc P W 0 (fun _=>true) true ts vs ds ps -> DataW.TrodAll enc P W' 0 sp' true ts vs ds ps
 | [],vs,ds,ps,_,_,h=>by obtain ⟨rfl,rfl,rfl⟩:=trodAll_nil h;rfl
 | t :: ts,vs,ds,ps,ht,hp,h=>by
   obtain ⟨v,vs1,d,ds1,p,q,rfl,rfl,rfl,h1,h2⟩:=trodAll_cons h
   have ht0:=ht t List.mem_cons_self
   refine ⟨p,q,Go.WideElems.Trod_stays hl ht0.1 ht0.2 h1 (fun x hx=>?_) (fun x hx=>hwt x (hp x (List.mem_append_left _ hx))),vw hl hk hwt (fun t' h'=>ht t' (List.mem_cons_of_mem _ h')) (fun x hx=>hp x (List.mem_append_right _ hx)) h2,rfl⟩
   obtain ⟨o,ho⟩:=hp x (List.mem_append_left _ hx)
   cases x with
   | cell b off=>simp only [World.sameAt,World.cell?,MemPlace.block] at ho ⊢;rw [ho,hk _ _ ho]
   | map b=>simp only [World.sameAt,MemPlace.block] at ho ⊢;rw [ho,hk _ _ ho]
theorem post_true {H : Type} {enc : TypeId × Value -> H} {fn : Func} {s : ChangeSpec} {tb : TypeId} {W' : World} {args : Array Value} {ds gs : List (DataW H)} {before : List MemPlace}
  (ht : fn.resultTypes = #[tb]) (hu : P.underlying tb = some .bool) (hl : laidOutB P = true) (hr : ∀ t ∈ fn.params.toList,P.readableRec t = true /\ t < P.types.size) (hv : s.vars = [])
  (hW : DataW.Whole enc P fn.params.toList s.vars false W args.toList ds gs before) (hs : gs = [] -> s.fn H (ds ++ gs) = { results:=[.lit (.bool true)],args:=ds })
  (he : World.env W' = World.env W) (hk : ∀ (b : Nat) o,W.heap[b]? = some o -> W'.heap[b]? = some o) : s.post enc P fn false true false false W args (.bool true) W':=by
 have hW':=hW
 obtain ⟨p,q,hA,hV,hb,hz,_⟩:=hW
 rw [hv] at hV
 obtain ⟨rfl,rfl⟩:=trodVars_none hV
 rw [List.append_nil] at hb
 subst hb
 have hs:=hs rfl
 have hlt : ∀ x ∈ before,∃ o,W.heap[MemPlace.block x]? = some o:=fun x hx=>⟨_,Array.getElem?_eq_getElem (hW'.lt x hx)⟩
 refine ⟨ds,[],before,[],before,[],hW',?_,?_,?_,zdA he hk,fun h=>by cases h⟩
 ·rw [hs,ht]
  exact trodAll_cons_mk (shut_bool hu _) trodAll_mk0
 ·rw [hs]
  exact vw hl hk (fun x ⟨o,ho⟩=>by simpa using (Array.getElem?_eq_some_iff.1 ho).1) hr hlt hA
 ·rw [hv,hs];rfl
end
end GA
end
section
namespace GA
open Go Go.RowKit
section
variable {P : Program} {T : Tab} {N : Nat} {ρ : Option Nat} {own : List Nat} {E : Env} {h h' : Nat -> Option Obj} {β β' : Nat -> Value} {H H' Hn : List Blk} {w w' : World} {σ : St} {D : List Nat}
structure kC (P : Program) (f : FuncId) (rs : List AV) (r : AV) (Hn : List Blk) : Prop where
 lo : lowL 0 rs = true
 lr : r.low Hn.length = true
 lH : ∀ x ∈ Hn,x.low Hn.length = true
 o : z7 P f rs [] fun r' H'=>r' = r /\ H' = Hn
theorem SR.beside (s : SR P E h β H w) {E' : Env} (hb : E'.b = E.b) (h1 : ∀ i b,blkOf β H i = some b -> E'.fr b = w.heap[b]?) (h2 : ∀ b,(∀ i,blkOf β H i ≠ some b) -> E'.fr b = E.fr b)
  (X : Ext h β [] h' β' Hn) (s' : SR P E' h' β' Hn w') (lo : ∀ x ∈ Hn,x.low Hn.length = true) :
  ∃ β'',Ren (H.length + ·) β' Hn β'' (H ++ Hn.map (Blk.ren (H.length + ·))) /\ Ext h β H h' β'' (H ++ Hn.map (Blk.ren (H.length + ·))) /\ SR P E h' β'' (H ++ Hn.map (Blk.ren (H.length + ·))) w':=by
 let β'' : Nat -> Value:=fun i=>if i < H.length then β i else β' (i - H.length)
 have b1 : ∀ i,i < H.length -> β'' i = β i:=fun i hi=>if_pos hi
 have b2 : ∀ i,β'' (H.length + i) = β' i:=fun i=>by
  show (if H.length + i < H.length then β (H.length + i) else β' (H.length + i - H.length)) = β' i
  rw [if_neg (by omega)];congr 1;omega
 have R : Ren (H.length + ·) β' Hn β'' (H ++ Hn.map (Blk.ren (H.length + ·))):=by
  refine ⟨fun i x e=>?_,fun i hi=>b2 i⟩
  rw [List.getElem?_append_right (by omega),List.getElem?_map,show H.length + i - H.length = i by omega,e];rfl
 have hlow : ∀ i,i < H.length -> (H ++ Hn.map (Blk.ren (H.length + ·)))[i]? = H[i]?:=fun i hi=>List.getElem?_append_left hi
 have X' : Ext h β H h' β'' (H ++ Hn.map (Blk.ren (H.length + ·))):=by
  refine ⟨X.imm,by simp,fun i x x' e e'=>?_⟩
  have hi:=(List.getElem?_eq_some_iff.1 e).1
  rw [hlow i hi,e] at e';cases e'
  have:=Blk.to_refl β i x
  cases x <;> first|exact rfl | trivial|(simp only [Blk.to,b1 i hi] at this ⊢;exact this)
 have o1 : ∀ i,i < H.length -> blkOf β'' (H ++ Hn.map (Blk.ren (H.length + ·))) i = blkOf β H i:=fun i hi=>by
  unfold blkOf;rw [hlow i hi,b1 i hi]
 have o2 : ∀ i,i < Hn.length -> blkOf β'' (H ++ Hn.map (Blk.ren (H.length + ·))) (H.length + i) = blkOf β' Hn i:=fun i hi=>R.blkOf hi
 have hsplit : ∀ i x,blkOf β'' (H ++ Hn.map (Blk.ren (H.length + ·))) i = some x -> (i < H.length /\ blkOf β H i = some x) \/ ∃ j,j < Hn.length /\ i = H.length + j /\ blkOf β' Hn j = some x:=by
  intro i x e
  have hi:=(yN e).1
  simp only [List.length_append,List.length_map] at hi
  by_cases hlt : i < H.length
  ·exact .inl ⟨hlt,by rw [<- o1 i hlt];exact e⟩
  ·refine .inr ⟨i - H.length,by omega,by omega,?_⟩
   rw [<- o2 _ (by omega),show H.length + (i - H.length) = i by omega];exact e
 have hclash : ∀ i j b,blkOf β H i = some b -> blkOf β' Hn j = some b -> False:=by
  intro i j b e1 e2
  have h3:=s'.fro j b e2
  rw [h1 i b e1,Array.getElem?_eq_getElem (s.lt e1)] at h3
  cases h3
 have hkeep : ∀ i b,blkOf β H i = some b -> w'.heap[b]? = w.heap[b]? /\ h' b = none:=by
  intro i b e
  have hlt:=s.lt e
  have e1 : E'.fr b = some w.heap[b]:=by rw [h1 i b e,Array.getElem?_eq_getElem hlt]
  obtain ⟨e2,e3⟩:=s'.frm b _ e1
  exact ⟨by rw [e2,Array.getElem?_eq_getElem hlt],e3⟩
 refine ⟨β'',R,X',s'.env.trans hb,s'.imm,fun i x e=>?_,fun i j x e1 e2=>?_,fun i x e=>?_,fun b o e=>?_,fun i x e=>?_⟩
 ·by_cases hlt : i < H.length
  ·rw [hlow i hlt] at e
   exact (s.blk i x e).keep X' (b1 i hlt) fun hd hd' b hb=>(hkeep i b (by unfold blkOf;rw [e];cases x <;> first|exact absurd rfl hd|exact absurd rfl hd'|exact hb)).1
  ·have hi:=(List.getElem?_eq_some_iff.1 e).1
   simp only [List.length_append,List.length_map] at hi
   rw [List.getElem?_append_right (by omega),List.getElem?_map] at e
   obtain ⟨y,hy,rfl⟩:=Option.map_eq_some_iff.1 e
   have:=R.blk (i:=i - H.length) (by omega) (s'.blk _ _ hy)
   simp only at this
   rwa [show H.length + (i - H.length) = i by omega] at this
 ·rcases hsplit i x e1 with ⟨_,a1⟩ | ⟨i',_,rfl,a1⟩ <;> rcases hsplit j x e2 with ⟨_,a2⟩ | ⟨j',_,rfl,a2⟩
  ·exact s.own _ _ _ a1 a2
  ·exact (hclash _ _ _ a1 a2).elim
  ·exact (hclash _ _ _ a2 a1).elim
  ·rw [s'.own _ _ _ a1 a2]
 ·rcases hsplit i x e with ⟨_,a1⟩ | ⟨i',_,rfl,a1⟩
  ·exact (hkeep i x a1).2
  ·exact s'.fresh _ _ a1
 ·by_cases hh : ∃ i,blkOf β H i = some b
  ·obtain ⟨i,hi⟩:=hh
   rw [s.fro _ _ hi] at e;cases e
  ·exact s'.frm b o (by rw [h2 b (fun i hi=>hh ⟨i,hi⟩)];exact e)
 ·rcases hsplit i x e with ⟨_,a1⟩ | ⟨j,_,rfl,a1⟩
  ·exact s.fro _ _ a1
  ·have h3:=s'.fro _ _ a1
   rw [h2 x (fun i hi=>hclash _ _ _ hi a1)] at h3
   exact h3
theorem z7.give {f : FuncId} {rs : List AV} {r : AV} {k : AV -> List Blk -> Prop} (x : kC P f rs r Hn) (hk : k (r.ren (H.length + ·)) (H ++ Hn.map (Blk.ren (H.length + ·)))) : z7 P f rs H k:=by
 refine ⟨x.o.1,fun E h β w vs s hr=>?_⟩
 classical
 let E' : Env:=⟨E.b,fun b=>if ∃ i,blkOf β H i = some b then w.heap[b]? else E.fr b,E.en⟩
 have s0 : SR P E' h β [] w:=by
  refine ⟨s.env,s.imm,fun i x e=>by simp at e,fun i j x e=>by simp [blkOf] at e,fun i x e=>by simp [blkOf] at e,fun b o e=>?_,fun i x e=>by simp [blkOf] at e⟩
  simp only [E'] at e
  split at e
  ·rename_i hh;obtain ⟨i,hi⟩:=hh;exact ⟨e,s.fresh _ _ hi⟩
  ·exact s.frm b o e
 have hr0 : RepL P h β [] rs vs:=⟨hr.1,fun j y e=>by
  obtain ⟨v,e1,e2⟩:=hr.2 j y e
  exact ⟨v,e1,Rep.cut (H:=[]) (l:=H) e2 ((zw.1 x.lo) y (List.mem_of_getElem? e))⟩⟩
 refine (x.o.2 E' h β w vs s0 hr0).mono ?_
 rintro e w' ⟨r1,H1,h',β',v,rfl,⟨rfl,rfl⟩,X,s',hrep⟩
 obtain ⟨β'',R,X',s''⟩:=s.beside (E':=E') rfl (fun i b e=>by simp only [E'];rw [if_pos ⟨i,e⟩]) (fun b hn=>by simp only [E'];rw [if_neg (fun ⟨i,hi⟩=>hn i hi)]) X s' x.lH
 exact ⟨_,_,h',β'',v,rfl,hk,X',s'',R.rep hrep⟩
theorem zb.give {f : FuncId} {rs : List AV} {r : AV} {k : AV -> List Blk -> Prop} (x : kC P f rs r Hn) (hk : k (r.ren (H.length + ·)) (H ++ Hn.map (Blk.ren (H.length + ·)))) : zb P f rs H k:=⟨.give x hk⟩
def SelR (f : Nat -> Nat) (H : List Blk) : Nat -> List Blk -> Prop
 | _,[]=>True
 | i,x :: l=>lget H (f i) = some (x.ren f) /\ SelR f H (i + 1) l
theorem SelR.get {f : Nat -> Nat} {H : List Blk} : ∀ {l : List Blk} {i : Nat},SelR f H i l -> ∀ (j : Nat) x,l[j]? = some x -> lget H (f (i + j)) = some (x.ren f)
 | [],_,_,j,x,e=>by simp at e
 | y :: l,i,h,0,x,e=>by simp at e;subst e;exact h.1
 | y :: l,i,h,j + 1,x,e=>by
   have:=SelR.get h.2 j x (by simpa using e)
   rwa [Nat.add_right_comm] at this
structure w7 (H : List Blk) (r' r : AV) (Hn : List Blk) : Prop where
 o : ∃ l : List Nat,l.length = Hn.length /\ l.Nodup /\ SelR (rnF l) H 0 Hn /\ r' = r.ren (rnF l)
theorem w7.mk' {H : List Blk} {r' r : AV} {Hn : List Blk} (l : List Nat) (h1 : l.length = Hn.length) (h2 : l.Nodup) (h3 : SelR (rnF l) H 0 Hn) (h4 : r' = r.ren (rnF l)) : w7 H r' r Hn:=⟨l,h1,h2,h3,h4⟩
theorem kC.body {f : FuncId} {fn : Func} {c : Code} {rs : List AV} {res : List ResultVar} {r : AV} (ok : zH P T) (own : List Nat) (hf : P.funcs[f]? = some fn) (hb : fn.body = some c) (hn : (fn.name == "runtime.NumGoroutine") = false)
  (hN : fn.ntmps = N) (hr : fn.results = res.toArray) (hl : rs.length <= N) (lo : lowL 0 rs = true) (lr : r.low Hn.length = true) (lH : ∀ x ∈ Hn,x.low Hn.length = true)
  (x : XRun P T N none own c (XIn T res fun r' H'=>w7 H' r' r Hn) [] (argX rs) []) : kC P f rs r Hn:=by
 refine ⟨lo,lr,lH,?_⟩
 obtain ⟨h1,h2⟩:=z7.inl ok own hf hb hn hN hr hl x
 refine ⟨h1,fun E h β w vs s hrs=>(h2 E h β w vs s hrs).mono ?_⟩
 rintro e w' ⟨r',H',h',β',v,rfl,⟨l,g1,g2,g3,g4⟩,X,s',hrep⟩
 have inj : ∀ i j,i < Hn.length -> j < Hn.length -> rnF l i = rnF l j -> i = j:=by
  intro i j hi hj e
  unfold rnF at e
  rw [zo,zo,List.getElem?_eq_getElem (by omega),List.getElem?_eq_getElem (by omega)] at e
  exact (List.getElem_inj g2).1 e
 have R : Ren (rnF l) (fun i=>β' (rnF l i)) Hn β' H':=⟨fun i x e=>by
  have:=g3.get i x e
  rw [Nat.zero_add,zo] at this;exact this,fun _ _=>rfl⟩
 exact ⟨r,Hn,h',_,v,rfl,⟨rfl,rfl⟩,⟨X.imm,Nat.zero_le _,fun i x x' e=>by simp at e⟩,R.sr s' inj lH,R.unrep hrep g4.symm lr⟩
mutual
def AV.plainG : AV -> Bool
 | .bool _ | .int _ _ | .nilp | .nilm | .nilf | .gr _ _=>true
 | .sl true []=>true
 | .agg cs | .tup cs=>kQ cs
 | _=>false
def kQ : List AV -> Bool
 | []=>true
 | x :: l=>x.plainG && kQ l
end
theorem kY : ∀ {l : List AV},kQ l = true ↔ ∀ x ∈ l,x.plainG = true
 | []=>by simp [kQ]
 | x :: l=>by simp [kQ,kY (l:=l)]
theorem Rep.plainG {r : AV} {v : Value} (x : Rep P h' β H r v) (hp : r.plainG = true) : Rep P h β H r v:=by
 induction x with
 | bool b=>exact .bool b
 | int k n=>exact .int k n
 | nilp=>exact .nilp
 | nilm=>exact .nilm
 | nilf=>exact .nilf
 | slnil=>exact .slnil
 | gr h1 h2 h3=>exact .gr h1 h2 h3
 | agg us h1 h2 h3 _ ih =>
   simp only [AV.plainG] at hp;rw [kY] at hp
   exact .agg us h1 h2 h3 fun j x e=>ih j x e (hp x (List.mem_of_getElem? e))
 | tup us h1 h2 _ ih =>
   simp only [AV.plainG] at hp;rw [kY] at hp
   exact .tup us h1 h2 fun j x e=>ih j x e (hp x (List.mem_of_getElem? e))
 | _=>simp [AV.plainG] at hp
def Blk.plainG : Blk -> Bool
 | .dead | .free=>true
 | .cells cs=>kQ cs
 | .grow _ _ els=>kQ (flat els)
 | _=>false
theorem zS.plainG {cs : List AV} {c : Array Value} (hp : kQ cs = true) (k : zS P h' β H cs c) : zS P h β H cs c:=
 let ⟨us,a,b⟩:=k
 ⟨us,a,fun j x e=>(b j x e).plainG (kY.1 hp x (List.mem_of_getElem? e))⟩
theorem kD.plainG {heap : Array Obj} {i : Nat} {x : Blk} (hp : x.plainG = true) (k : kD P h' β H heap i x) : kD P h β H heap i x:=by
 cases x with
 | dead=>trivial
 | free=>trivial
 | cells cs =>
   obtain ⟨b,c,t,h1,h2,h3,h4,h5⟩:=k
   exact ⟨b,c,t,h1,h2,h3,h4,h5.plainG hp⟩
 | grow t nl els =>
   rcases k with k | k | ⟨h1,b,cap,c,h2,h3,h4,h5,h6,h7,h8,h9,h10,h11⟩
   ·exact .inl k
   ·exact .inr (.inl k)
   ·exact .inr (.inr ⟨h1,b,cap,c,h2,h3,h4,h5,h6,h7,h8,h9,h10,h11.plainG hp⟩)
 | _=>simp [Blk.plainG] at hp
theorem z7.giveL {f : FuncId} {rs rs' : List AV} {r : AV} {k : AV -> List Blk -> Prop} (x : kC P f rs' r Hn) (hf : yC P H rs rs') (pr : r.plainG = true) (pH : ∀ x ∈ Hn,x.plainG = true)
  (hk : k (r.ren (H.length + ·)) (H ++ Hn.map (Blk.ren (H.length + ·)))) : z7 P f rs H k:=by
 refine ⟨x.o.1,fun E h β w vs s hr=>?_⟩
 classical
 let E' : Env:=⟨E.b,fun b=>if ∃ i,blkOf β H i = some b then w.heap[b]? else E.fr b,E.en⟩
 have hr0 : RepL P (hall h β H w) β [] rs' vs:=⟨by rw [hf.1];exact hr.1,fun j y e=>by
  obtain ⟨z,e1,e2⟩:=hf.2 j y e
  obtain ⟨v,e3,e4⟩:=hr.2 j z e1
  exact ⟨v,e3,e2 E h β w s v e4⟩⟩
 refine (x.o.2 E _ β w vs s.all hr0).mono ?_
 rintro e w' ⟨r1,H1,h',β',v,rfl,⟨rfl,rfl⟩,X,s',hrep⟩
 have hown : ∀ i b,blkOf β H i = some b -> w'.heap[b]? = w.heap[b]? /\ ∃ o,w.heap[b]? = some o /\ h' b = some o:=fun i b e=>by
  have hlt:=s.lt e
  have e1 : w.heap[b]? = some w.heap[b]:=Array.getElem?_eq_getElem hlt
  have e3:=X.imm b _ ((w0 (h:=h) (w:=w) e).trans e1)
  have e2:=s'.imm b _ e3
  exact ⟨by rw [e2,e1],_,e1,e3⟩
 have hsub : ∀ b,h' b = none -> h b = none:=fun b e=>by
  cases e1 : h b with
  | none=>rfl
  | some o=>rw [X.imm b o (k7 s e1)] at e;cases e
 have s2 : SR P E' h β' H1 w':=by
  refine ⟨s'.env,fun b o e=>s'.imm b o (X.imm b o (k7 s e)),fun i x e=>(s'.blk i x e).plainG (pH x (List.mem_of_getElem? e)),s'.own,fun i x e=>hsub x (s'.fresh i x e),fun b o e=>?_,fun i x e=>?_⟩
  ·simp only [E'] at e
   split at e
   ·rename_i hh;obtain ⟨i,hi⟩:=hh
    exact ⟨(hown i b hi).1.trans e,s.fresh _ _ hi⟩
   ·exact ⟨(s'.frm b o e).1,(s.frm b o e).2⟩
  ·simp only [E']
   rw [if_neg]
   ·exact s'.fro i x e
   ·rintro ⟨j,hj⟩
    obtain ⟨_,o,_,h5⟩:=hown j x hj
    rw [s'.fresh i x e] at h5;cases h5
 obtain ⟨β'',R,X',s''⟩:=s.beside (E':=E') rfl (fun i b e=>by simp only [E'];rw [if_pos ⟨i,e⟩]) (fun b hn=>by simp only [E'];rw [if_neg (fun ⟨i,hi⟩=>hn i hi)]) (h':=h) (β':=β') (Hn:=H1) ⟨fun _ _ e=>e,Nat.zero_le _,fun i x x' e=>by simp at e⟩ s2 x.lH
 exact ⟨_,_,h,β'',v,rfl,hk,X',s'',R.rep (hrep.plainG pr)⟩
theorem zb.giveL {f : FuncId} {rs rs' : List AV} {r : AV} {k : AV -> List Blk -> Prop} (x : kC P f rs' r Hn) (hf : yC P H rs rs') (pr : r.plainG = true) (pH : ∀ x ∈ Hn,x.plainG = true)
  (hk : k (r.ren (H.length + ·)) (H ++ Hn.map (Blk.ren (H.length + ·)))) : zb P f rs H k:=⟨.giveL x hf pr pH hk⟩
theorem Walk.nilcell {c : Code} {Q : Post} (j o : Nat) (te : TypeId) {cs : List AV} (hj : lget H j = some (.cells cs)) (hc : lget cs o = some (.sl true [])) (x : Walk P N ρ c Q D σ (H.set j (.cells (cs.set o (.gr H.length 0))) ++ [.grow te true []])) : Walk P N ρ c Q D σ H:=by
 constructor
 intro E h β a w s
 rw [zo] at hj hc
 have hlt:=(List.getElem?_eq_some_iff.1 hj).1
 have hlo:=(List.getElem?_eq_some_iff.1 hc).1
 obtain ⟨s1,X1⟩:=s.sr.push (w':=w) s.sr.env (fun _ _=>rfl) (.slice none 0 0) (.grow te true []) (by intro b hb;simp [anchor] at hb) (fun _=>.inl ⟨rfl,rfl,by simp [upb]⟩)
 have hj1 : (H ++ [Blk.grow te true []])[j]? = some (.cells cs):=by rw [List.getElem?_append_left hlt];exact hj
 obtain ⟨s2,X2⟩:=s1.modify (β':=upb β H.length (.slice none 0 0)) (w':=w) (x':=.cells (cs.set o (.gr H.length 0))) hj1 (fun _ _=>rfl) (.inr ⟨_,rfl,rfl⟩) s1.env (fun _ _ _=>rfl) (fun b e=>.inl (by unfold blkOf;rw [hj1];exact e)) (fun X=>by
  obtain ⟨b,c,t,h1,h2,h3,h4,us,h5,h6⟩:=s1.blk j _ hj1
  refine ⟨b,c,t,h1,h2,by rw [List.length_set];exact h3,fun y hy=>?_,us,fun i y e=>?_,fun i y e=>?_⟩
  ·rcases List.mem_or_eq_of_mem_set hy with hy | rfl
   ·exact h4 y hy
   ·rfl
  ·by_cases hio : o = i
   ·subst hio;exact h5 o _ hc
   ·rw [List.getElem?_set_ne hio] at e;exact h5 i y e
  ·by_cases hio : o = i
   ·subst hio
    rw [List.getElem?_set_self hlo] at e;cases e
    have h7:=h6 o _ hc
    cases h : us o <;> rw [h] at h7 <;> cases h7
    refine .gr rfl ⟨_,by rw [List.getElem?_set_ne (by omega),List.getElem?_append_right (Nat.le_refl _),Nat.sub_self];rfl,rfl⟩ fun t' nl els e=>?_
    rw [List.getElem?_set_ne (by omega),List.getElem?_append_right (Nat.le_refl _),Nat.sub_self] at e
    simp at e;obtain ⟨_,_,rfl⟩:=e
    exact ⟨Nat.le_refl _,fun _=>by simp [upb]⟩
   ·rw [List.getElem?_set_ne hio] at e;exact X.rep (h6 i y e))
 rw [List.set_append_left _ _ hlt] at s2 X2
 exact wpIn_mono (x.o E h _ a w ⟨s2,fun u r e=>let ⟨v,h1,h2⟩:=s.fits u r e;⟨v,h1,(X1.trans X2).rep h2⟩,s.size,s.df.ext (X1.trans X2)⟩) fun _ _ _=>Conc.ext (X1.trans X2)
noncomputable def ja (n : Nat) (h : Nat -> Option Obj) (β : Nat -> Value) (H : List Blk) (w : World) : Nat -> Option Obj:=by
 classical exact fun b=>if ∃ i,n <= i /\ blkOf β H i = some b then w.heap[b]? else h b
theorem hallN_own {n b i : Nat} (hi : n <= i) (e : blkOf β H i = some b) : ja n h β H w b = w.heap[b]?:=by
 unfold ja;rw [if_pos ⟨i,hi,e⟩]
theorem qM {n : Nat} (s : SR P E h β H w) {b : Nat} {o : Obj} (e : h b = some o) : ja n h β H w b = some o:=by
 unfold ja;split
 ·rename_i hh;obtain ⟨i,_,hi⟩:=hh;rw [s.fresh _ _ hi] at e;cases e
 ·exact e
theorem SR.allN {H1 l : List Blk} (s : SR P E h β (H1 ++ l) w) (lo : ∀ x ∈ H1,x.low H1.length = true) : SR P E (ja H1.length h β (H1 ++ l) w) β H1 w:=by
 have s1:=s.cut lo
 have hb : ∀ i,i < H1.length -> blkOf β H1 i = blkOf β (H1 ++ l) i:=fun i hi=>by unfold blkOf;rw [List.getElem?_append_left hi]
 have hlt : ∀ {i x},blkOf β H1 i = some x -> i < H1.length:=fun e=>(yN e).1
 have X : Ext h β H1 (ja H1.length h β (H1 ++ l) w) β H1:=⟨fun b o e=>qM s e,Nat.le_refl _,fun i x x' e e'=>by rw [e] at e';cases e';exact Blk.to_refl _ _ _⟩
 refine ⟨s1.env,fun b o e=>?_,fun i x e=>(s1.blk i x e).keep X rfl (fun _ _ _ _=>rfl),s1.own,fun i x e=>?_,fun b o e=>⟨(s.frm b o e).1,?_⟩,s1.fro⟩
 ·unfold ja at e;split at e
  ·exact e
  ·exact s.imm b o e
 ·have hi:=hlt e
  unfold ja;rw [if_neg]
  ·exact s1.fresh i x e
  ·rintro ⟨j,hj,hj2⟩
   have:=s.own i j x (by rw [<- hb i hi];exact e) hj2
   omega
 ·unfold ja;rw [if_neg]
  ·exact (s.frm b o e).2
  ·rintro ⟨j,hj,hj2⟩
   rw [s.fro _ _ hj2] at e;cases e
def FrozN (P : Program) (n : Nat) (H : List Blk) (r r' : AV) : Prop:=
 ∀ E h β w,SR P E h β H w -> ∀ v,Rep P h β H r v -> ∀ H1 : List Blk,Rep P (ja n h β H w) β H1 r' v
end
end GA
end
section
namespace GA
open Go Go.RowKit
section
variable {P : Program} {T : Tab} {N : Nat} {ρ : Option Nat} {H : List Blk} {σ : St} {D : List Nat}
theorem Walk.place {c : Code} {Q : Post} (x : Walk P N ρ c Q D σ (H ++ [.free])) : Walk P N ρ c Q D σ H:=by
 constructor
 intro E h β a w s
 obtain ⟨s',X⟩:=s.sr.push (w':=w) s.sr.env (fun _ _=>rfl) (.pointer none) .free (by intro b hb;simp [anchor] at hb) (fun _=>trivial)
 exact wpIn_mono (x.o E h _ a w ⟨s',fun u r e=>let ⟨v,h1,h2⟩:=s.fits u r e;⟨v,h1,X.rep h2⟩,s.size,s.df.ext X⟩) fun _ _ _=>Conc.ext X
theorem zt.at {H : List Blk} {b : Blk} {k : Nat -> List Blk -> Prop} (i : Nat) (h1 : lget H i = some .free) (h2 : hset H i b fun H'=>k i H') : zt H b k:=⟨i,h1,h2⟩
end
end GA
end
section
namespace GA
open Go Go.RowKit
section
variable {P : Program} {N : Nat} {ρ : Option Nat} {E : Env} {h h' : Nat -> Option Obj} {β : Nat -> Value} {H H' : List Blk} {w : World} {σ : St}
theorem vO (s : SR P E h β H w) {i n : Nat} {t : TypeId} {nl : Bool} {els : List AV} (hi : H[i]? = some (.grow t nl els)) (hn : els.length = n) {v : Value} (hr : Rep P h β H (.gr i n) v) (X : Ext h β H h' β H')
  (hfz : ∀ b o,blkOf β H i = some b -> w.heap[b]? = some o -> h' b = some o) : Rep P h' β H' (.sl nl els) v:=by
 cases hr with
 | gr ho hl hv =>
   obtain ⟨_,h2⟩:=hv _ _ _ hi
   have hβ:=h2 hn
   subst hβ
   rcases s.blk i _ hi with ⟨rfl,rfl,h3⟩ | ⟨rfl,rfl,b,h3⟩ | ⟨rfl,b,cap,c,h3,h4,h5,h6,h7,h8,h9,h10,h11,us,h12,h13⟩
   ·rw [h3];exact .slnil
   ·rw [h3];exact .slemp
   ·rw [h3]
    cases els with
    | nil=>exact .slemp
    | cons e0 l0 =>
      have hbo : blkOf β H i = some b:=by simp only [blkOf,hi,h3,anchor];rw [if_neg (by omega)]
      exact .sl us rfl (by simp) (hfz b _ hbo h5) h10 h9 h11 h6 (fun j x e=>by rw [Nat.zero_add];exact h12 j x e) (fun j x e=>X.rep (h13 j x e))
theorem Walk.freeze {c : Code} {Q : Post} {D : List Nat} (u i n : Nat) {t : TypeId} {nl : Bool} {els : List AV} (hu : σ u = some (.gr i n)) (hi : lget H i = some (.grow t nl els)) (hn : els.length = n) (x : Walk P N ρ c Q D (updX σ u (.sl nl els)) (H.set i .dead)) : Walk P N ρ c Q D σ H:=by
 constructor
 intro E h β a w s
 rw [zo] at hi
 obtain ⟨h',s1,X,hfz⟩:=s.sr.freeze hi
 refine wpIn_mono (x.o E h' _ a w ⟨s1,fun t' r e=>?_,s.size,s.df.ext X⟩) fun _ _ _=>Conc.ext X
 rw [kq] at e;unfold upd at e
 split at e
 ·rename_i hh;subst hh;cases e
  obtain ⟨v,h1,h2⟩:=s.fits _ _ hu
  exact ⟨v,h1,vO s.sr hi hn h2 X hfz⟩
 ·obtain ⟨v,h1,h2⟩:=s.fits t' r e
  exact ⟨v,h1,X.rep h2⟩
theorem Walk.freezeCell {c : Code} {Q : Post} {D : List Nat} (j o i n : Nat) {cs : List AV} {t : TypeId} {nl : Bool} {els : List AV} (hj : lget H j = some (.cells cs)) (hc : lget cs o = some (.gr i n)) (hi : lget H i = some (.grow t nl els)) (hn : els.length = n)
  (x : Walk P N ρ c Q D σ ((H.set i .dead).set j (.cells (cs.set o (.sl nl els))))) : Walk P N ρ c Q D σ H:=by
 constructor
 intro E h β a w s
 rw [zo] at hi hj hc
 have hlo:=(List.getElem?_eq_some_iff.1 hc).1
 have hij : i ≠ j:=by rintro rfl;rw [hi] at hj;cases hj
 obtain ⟨h',s1,X1,hfz⟩:=s.sr.freeze hi
 have hj1 : (H.set i .dead)[j]? = some (.cells cs):=by rw [List.getElem?_set_ne hij];exact hj
 obtain ⟨s2,X2⟩:=s1.modify (β':=β) (w':=w) (x':=.cells (cs.set o (.sl nl els))) hj1 (fun _ _=>rfl) (.inr ⟨_,rfl,rfl⟩) s1.env (fun _ _ _=>rfl) (fun b e=>.inl (by unfold blkOf;rw [hj1];exact e)) (fun X=>by
  obtain ⟨b,c,t,h1,h2,h3,h4,us,h5,h6⟩:=s.sr.blk j _ hj
  refine ⟨b,c,t,h1,h2,by rw [List.length_set];exact h3,fun y hy=>?_,us,fun i y e=>?_,fun i y e=>?_⟩
  ·rcases List.mem_or_eq_of_mem_set hy with hy | rfl
   ·exact h4 y hy
   ·rfl
  ·by_cases hio : o = i
   ·subst hio;exact h5 o _ hc
   ·rw [List.getElem?_set_ne hio] at e;exact h5 i y e
  ·by_cases hio : o = i
   ·subst hio
    rw [List.getElem?_set_self hlo] at e;cases e
    exact vO s.sr hi hn (h6 o _ hc) (X1.trans X) hfz
   ·rw [List.getElem?_set_ne hio] at e;exact (X1.trans X).rep (h6 i y e))
 exact wpIn_mono (x.o E h' _ a w ⟨s2,fun u r e=>let ⟨v,h1,h2⟩:=s.fits u r e;⟨v,h1,(X1.trans X2).rep h2⟩,s.size,s.df.ext (X1.trans X2)⟩) fun _ _ _=>Conc.ext (X1.trans X2)
section
variable {i n : Nat} {nl : Bool} {els : List AV}
end
end
end GA
end
section
namespace GA
open Go Go.RowKit
section
variable {F : Fence} {n : Nat} {P : Program} {Q : Exit -> Act -> World -> Prop} {a : Act} {w : World}
theorem ki {b : Frame} {k : List Item} {cs : List Frame} {c : Code} : step P (lone (b.atR a (.code (.scope c) :: k)) cs w) = .next (lone (b.atR a (.code c :: .inScope c :: k)) cs w):=
 step_lone_go (by simp [stepG,stepG.exec,Frame.atR])
theorem zak {b : Frame} {k : List Item} {cs : List Frame} {c : Code} : step P (lone (b.atR a (.inScope c :: k)) cs w) = .next (lone (b.atR a k) cs w):=
 step_lone_go (by simp [stepG,stepG.exec,Frame.atR])
theorem zdu {c : Code} (h : c.wpIn F n P (Exit.noGoto Q) a w) : (Code.scope c).wpIn F n P Q a w:=by
 intro b k cs hro hb hr
 have h0 : (lone (b.atR a (.code (.scope c) :: k)) cs w).fenced P F:=fenced_calm hb hr rfl
 obtain ⟨e,a₁,w₁,hq,harr⟩:=h b (.inScope c :: k) cs hro hb hr
 cases e with
 | normal=>exact ⟨.normal,a₁,w₁,hq,.head h0 ki (StepsIn.trans harr (.one (fenced_calm hb hr rfl) zak))⟩
 | exit id =>
   have hx : exitTo id (.inScope c :: k) = exitTo id k:=by simp [exitTo]
   exact ⟨.exit id,a₁,w₁,hq,fun k' hk=>.head h0 ki (harr.1 k' (by rw [hx];exact hk)),
    fun hr' hk=>let ⟨k₁,h1,h2⟩:=harr.2 hr' (by rw [hx];exact hk);⟨k₁,h1,.head h0 ki h2⟩⟩
 | goto l=>exact hq.elim
 | ret=>exact ⟨_,a₁,w₁,hq,.of_steps (.one h0 ki) harr⟩
 | panic ch=>exact ⟨_,a₁,w₁,hq,.of_steps (.one h0 ki) harr⟩
 | outgrown=>exact ⟨_,a₁,w₁,hq,.of_steps (.one h0 ki) harr⟩
end
section
variable {P : Program} {T : Tab} {N : Nat} {ρ : Option Nat} {D : List Nat} {σ : St} {H : List Blk} {Q : Post} {own : List Nat}
def scopeX (Q : Post) : Post
 | .goto _,_,_,_=>False
 | e,D,σ,H=>Q e D σ H
theorem Walk.scope {c : Code} (ok : zH P T) (own : List Nat) (x : XRun P T N ρ own c (scopeX Q) D σ H) : Walk P N ρ (.scope c) Q D σ H:=by
 constructor
 intro E h β a w s
 refine zdu (wpIn_mono (XRun.sound ok x E h β a w s) ?_)
 rintro e a' w' ⟨D',σ',H',h',β',q,X,s'⟩
 cases e with
 | goto l=>exact q.elim
 | _=>exact ⟨D',σ',H',h',β',q,X,s'⟩
theorem Walk.label {l : Nat} (x : Q .normal D σ H) : Walk P N ρ (.label l) Q D σ H:=
 ⟨fun E h β a w s=>wpIn_label ⟨D,σ,H,h,β,x,Ext.refl _ _ _,s⟩⟩
end
end GA
end
section
namespace GA
open Go Go.RowKit
section
variable {P : Program} {T : Tab} {N : Nat} {ρ : Option Nat} {D : List Nat} {σ : St} {H : List Blk} {Q : Post}
def zaL (P : Program) (n : Nat) (H : List Blk) (r r' : AV) : Prop:=FrozN P n H r r' \/ (r' = r /\ r.low n = true)
theorem zaL.same {n : Nat} {r : AV} (h : r.low n = true) : zaL P n H r r:=.inr ⟨rfl,h⟩
def SubF (P : Program) (n : Nat) (H : List Blk) : List (Nat × AV) -> St -> Prop
 | [],_=>True
 | (t,r') :: l,σ=>(∃ r,σ t = some r /\ zaL P n H r r') /\ SubF P n H l σ
theorem zb4 {n : Nat} : ∀ {l : List (Nat × AV)} {σ : St},SubF P n H l σ -> ∀ t r,stX l t = some r -> ∃ r0,σ t = some r0 /\ zaL P n H r0 r
 | [],_,_,_,_,e=>by cases e
 | (u,x) :: l,σ,h,t,r,e=>by
   simp only [stX,kq,upd] at e
   split at e
   ·rename_i h1;subst h1;cases e;exact h.1
   ·exact zb4 h.2 t r e
end
end GA
end
section
namespace GA
open Go Go.RowKit Go.Proofs
section
variable {P : Program} {E : Env} {h : Nat -> Option Obj} {β : Nat -> Value} {H : List Blk} {w w' : World} {ρ : Go.Shelf.Ren}
theorem Walk.know {N : Nat} {r : Option Nat} {c : Code} {Q : Post} {D : List Nat} {σ : St} (L : List (Nat × AV)) (hs : SubX L σ) (x : Walk P N r c Q D (stX L) H) : Walk P N r c Q D σ H:=⟨AWp.weaken (kR hs) x.o⟩
theorem kh.row {es : List (Int × AV)} {n : Int} {k : AV -> Prop} (i : Nat) {te : TypeId} {nl : Bool} {els : List AV} (hi : lget H i = some (.grow te nl els)) (hnl : nl = els.isEmpty) (he : mget n es = if els.isEmpty = true then none else some (.gr i els.length)) (h : k (.gr i els.length)) : kh H (.sl true []) false n es k:=by
 rw [zo] at hi
 cases els with
 | nil=>subst hnl;exact ⟨.inr ⟨rfl,rfl,he,i,te,hi,h⟩⟩
 | cons e els=>exact ⟨.inl (by rw [he];exact h)⟩
theorem Walk.nilrow {N : Nat} {r : Option Nat} {c : Code} {Q : Post} {D : List Nat} {σ : St} (te : TypeId) (x : Walk P N r c Q D σ (H ++ [.grow te true []])) : Walk P N r c Q D σ H:=by
 constructor
 intro E h β a w s
 obtain ⟨s',X⟩:=s.sr.push (w':=w) s.sr.env (fun _ _=>rfl) (.slice none 0 0) (.grow te true []) (by intro b hb;simp [anchor] at hb) (fun _=>.inl ⟨rfl,rfl,by simp [upb]⟩)
 exact wpIn_mono (x.o E h _ a w ⟨s',fun u r e=>let ⟨v,h1,h2⟩:=s.fits u r e;⟨v,h1,X.rep h2⟩,s.size,s.df.ext X⟩) fun _ _ _=>Conc.ext X
structure FrzE (i n : Nat) (nl : Bool) (els : List AV) (es es' : List (Int × AV)) : Prop where
 k : es'.map (·.1) = es.map (·.1)
 o : ∀ (j : Nat) q x',es'[j]? = some (q,x') -> ∃ x,es[j]? = some (q,x) /\ (x' = x \/ (x = .gr i n /\ x' = .sl nl els))
end
end GA
end
