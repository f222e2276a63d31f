/- Part 3 of a proof: Abs16, Abs17, Abs18, Tab, Abs19, Abs20, Abs21, Abs22, Abs23, Abs24, S1, S2, S3, S4, S5, S6, S7, S8, S9, Abs25. -/
import Derived.Test.YtnjobcijpmnloaaGreatP2
import Derived.Test.YtnjobcijpmnloaaGreatProg
import Derived.KernelRfl
import Derived.OrdersIn
set_option linter.unusedVariables false
set_option linter.unusedSimpArgs false
set_option maxRecDepth 8000
section
namespace GA
open Go Go.RowKit
def updX (σ : St) (d : Nat) (r : AV) : St:=fun t=>match Nat.beq t d with | true=>some r | false=>σ t
def putX (N : Nat) (σ : St) (d : Option Nat) (r : AV) : St:=match d with | some d=>(match Nat.blt d N with | true=>updX σ d r | false=>σ) | none=>σ
def stX : List (Nat × AV) -> St
 | []=>fun _=>none
 | (t,r) :: l=>updX (stX l) t r
theorem yZ (σ : St) (d : Nat) (r : AV) : updX σ d r = upd σ d r:=by
 funext t;unfold updX upd
 by_cases h : t = d
 ·subst h;simp
 ·rw [if_neg h];cases e : Nat.beq t d with
  | true=>exact absurd (Nat.eq_of_beq_eq_true e) h
  | false=>rfl
theorem zcM (N : Nat) (σ : St) (d : Option Nat) (r : AV) : putX N σ d r = putO N σ d r:=by
 cases d with
 | none=>rfl
 | some d =>
   simp only [putX,putO]
   cases e : Nat.blt d N with
   | true=>rw [if_pos (by simpa [Nat.blt_eq] using e)];exact yZ _ _ _
   | false=>rw [if_neg (by intro h;rw [<- Nat.blt_eq] at h;rw [h] at e;cases e)]
theorem qN {σ : St} {d : Nat} {r : AV} (h : σ d = some r) : updX σ d r = σ:=by
 rw [yZ];funext t;unfold upd;split
 ·rename_i e;rw [e,h]
 ·rfl
def xGate (all : List Oper) (σ : St) (g : Option (Nat × Bool)) (A B : St -> Prop) : Prop:=
 match g with
 | none=>A σ
 | some (j,want)=>bnd (lget all j) fun o=>bnd o.dst fun d=>bnd (σ d) fun r =>
   match r with
   | .bool b=>match want with
     | true=>XBr b (A (updX σ d (.bool true))) (B (updX σ d (.bool false)))
     | false=>XBr b (B (updX σ d (.bool true))) (A (updX σ d (.bool false)))
   | .tup []=>B σ
   | _=>False
def XReg (P : Program) (T : Tab) (N : Nat) (own : List Nat) (all : List Oper) : List Oper -> St -> List Blk -> (St -> List Blk -> Prop) -> Prop
 | [],σ,H,K=>K σ H
 | o :: rest,σ,H,K=>xGate all σ o.guard (fun σ=>XOp P T own o.dst σ H (fun r H'=>XReg P T N own all rest (putX N σ o.dst r) H' K) o.op) (fun σ=>XReg P T N own all rest (putX N σ o.dst (.tup [])) H K)
def zaG (id : Nat) (Q : Post) : Post
 | .exit id',D,σ,H=>match Nat.beq id' id with | true=>Q .normal D σ H | false=>Q (.exit id') D σ H
 | e,D,σ,H=>Q e D σ H
def manyG : Nat -> List Oper -> Bool
 | 0,_=>true
 | _ + 1,[]=>false
 | n + 1,o :: l=>match o.guard with | none=>manyG (n + 1) l | some _=>manyG n l
def XRun (P : Program) (T : Tab) (N : Nat) (ρ : Option Nat) (own : List Nat) : Code -> Post -> List Nat -> St -> List Blk -> Prop
 | .skip,Q,D,σ,H=>Q .normal D σ H
 | .exit id,Q,D,σ,H=>Q (.exit id) D σ H
 | .ret,Q,D,σ,H=>Q .ret D σ H
 | .seq a b,Q,D,σ,H=>XRun P T N ρ own a (yW (XRun P T N ρ own b Q) Q) D σ H
 | .cond c x y,Q,D,σ,H=>bnd (ev σ c) fun r=>match r with | .bool b=>XBr b (XRun P T N ρ own x Q D σ H) (XRun P T N ρ own y Q D σ H) | _=>False
 | .block id b,Q,D,σ,H=>XRun P T N ρ own b (zaG id Q) D σ H
 | .region id ops false,Q,D,σ,H=>match manyG 12 ops.toList with | true=>Walk P N ρ (.region id ops false) Q D σ H | false=>XReg P T N own ops.toList ops.toList σ H (Q .normal D)
 | c,Q,D,σ,H=>Walk P N ρ c Q D σ H
section
variable {P : Program} {T : Tab} {N : Nat} {ρ : Option Nat} {own : List Nat}
theorem zaA {all : List Oper} {σ : St} {g : Option (Nat × Bool)} {A B : St -> Prop} (h : xGate all σ g A B) : gate all σ g (A σ) (B σ):=by
 unfold xGate at h
 split at h
 ·exact h
 ·rename_i j want
  obtain ⟨o',h1,h2⟩:=zd h
  obtain ⟨d,h3,h4⟩:=zd h2
  obtain ⟨r,h5,h6⟩:=zd h4
  rw [zr] at h1
  simp only [gate,h1,Option.bind_some,h3,zo,h5]
  split at h6
  ·rename_i b
   split at h6
   ·refine ⟨fun e=>?_,fun e=>?_⟩
    ·have e' : b = true:=by simpa using e
     subst e';have:=h6.t rfl;rw [qN h5] at this;exact this
    ·have e' : b = false:=by simpa using e
     subst e';have:=h6.f rfl;rw [qN h5] at this;exact this
   ·refine ⟨fun e=>?_,fun e=>?_⟩
    ·have e' : b = false:=by simpa using e
     subst e';have:=h6.f rfl;rw [qN h5] at this;exact this
    ·have e' : b = true:=by simpa using e
     subst e';have:=h6.t rfl;rw [qN h5] at this;exact this
  ·exact h6
  ·exact h6.elim
theorem XReg.sound {E : Env} (ok : zA P T) {all : List Oper} {K : St -> List Blk -> Prop} {Q : Exit -> Act -> World -> Prop} {a0 : Act} {h0 : Nat -> Option Obj} {β0 : Nat -> Value} {H0 : List Blk}
  (hQ : ∀ σ' H' h' β' a' w',K σ' H' -> Ext h0 β0 H0 h' β' H' -> SR P E h' β' H' w' -> Fits P h' β' H' σ' a' -> Keeps a0 a' -> Q .normal a' w') :
  ∀ (l : List Oper) (i : Nat) (σ : St) (H : List Blk) (h : Nat -> Option Obj) (β : Nat -> Value) (a : Act) (w : World),(∀ j,l[j]? = all[i + j]?) -> XReg P T N own all l σ H K -> Ext h0 β0 H0 h β H -> SR P E h β H w -> Fits P h β H σ a -> Keeps a0 a -> a.tmps.size = N ->
   wpOpsIn (FW ρ) 0 P all.toArray Q ((List.range l.length).map (i + ·)) a w
 | [],i,σ,H,h,β,a,w,_,hk,X,s,F,kp,hN=>hQ σ H h β a w hk X s F kp
 | o :: rest,i,σ,H,h,β,a,w,hl,hk,X,s,F,kp,hN=>by
   have ho : all.toArray[i]? = some o:=by have:=hl 0;simpa using this.symm
   have hrange : (List.range (o :: rest).length).map (i + ·) = i :: (List.range rest.length).map (i + 1 + ·):=by
    simp only [List.length_cons,List.range_succ_eq_map,List.map_cons,List.map_map,Nat.add_zero]
    congr 1
    apply List.map_congr_left;intro j _;simp;omega
   rw [hrange]
   simp only [wpOpsIn,ho]
   have ih:=fun σ' H' h' β' a' w'=>XReg.sound ok hQ rest (i + 1) σ' H' h' β' a' w' (fun j=>by have:=hl (j + 1);simpa [Nat.add_assoc,Nat.add_comm 1 j] using this)
   simp only [XReg] at hk
   rcases ft F (zaA hk) with ⟨hw,hA⟩ | ⟨hw,hB⟩
   ·rw [if_pos hw]
    refine AOp.sound (hA.sound ok) s F ?_
    intro r H' h' β' w' v hk' X' s' hr
    rw [zcM] at hk'
    exact ih _ H' h' β' _ w' hk' (X.trans X') s' ((F.ext X').put hN hr) ⟨(vu _ _ _).trans kp.size,(v9 _ _ _).trans kp.defers⟩ ((vu _ _ _).trans hN)
   ·rw [if_neg (by rw [hw];simp)]
    rw [zcM] at hB
    exact ⟨fun _ _=>trivial,ih _ H h β _ w hB X s (F.put hN zbW) ⟨(vu _ _ _).trans kp.size,(v9 _ _ _).trans kp.defers⟩ ((vu _ _ _).trans hN)⟩
theorem AWp.regionX {id : Nat} {ops : Array Oper} {Q : Post} {D : List Nat} {σ : St} {H : List Blk} (ok : zA P T) (x : XReg P T N own ops.toList ops.toList σ H (Q .normal D)) : AWp P N ρ (.region id ops false) Q D σ H:=by
 intro E h β a w s
 refine wpIn_region ?_
 have:=XReg.sound (ρ:=ρ) (Q:=Conc P E N h β H Q) (a0:=a) (h0:=h) (β0:=β) (H0:=H) ok (fun σ' H' h' β' a' w' k X s' F kp=>⟨D,σ',H',h',β',k,X,s',F,kp.size.trans s.size,by rw [kp.defers];exact s.df.ext X⟩)
  ops.toList 0 σ H h β a w (by simp) x (Ext.refl _ _ _) s.sr s.fits ⟨rfl,rfl⟩ s.size
 simpa using this
theorem zbA (id : Nat) (Q : Post) : zaG id Q = zbj id Q:=by
 funext e D σ H
 cases e with
 | exit id' =>
   simp only [zaG,zbj]
   by_cases h : id' = id
   ·subst h;simp
   ·rw [if_neg h];cases e : Nat.beq id' id with
    | true=>exact absurd (Nat.eq_of_beq_eq_true e) h
    | false=>rfl
 | _=>rfl
theorem XRun.sound (ok : zA P T) : ∀ {c : Code} {Q : Post} {D : List Nat} {σ : St} {H : List Blk},XRun P T N ρ own c Q D σ H -> AWp P N ρ c Q D σ H
 | .skip,_,_,_,_,x=>.skip x
 | .exit _,_,_,_,_,x=>.exit x
 | .ret,_,_,_,_,x=>.ret x
 | .seq a b,Q,_,_,_,x=>.seq (AWp.mono (Q:=yW (XRun P T N ρ own b Q) Q) (XRun.sound ok (c:=a) x) fun e D σ H q=>by
   cases e with
   | normal=>exact XRun.sound ok (c:=b) (Q:=Q) q
   | _=>exact q)
 | .cond c _ _,_,_,_,_,x=>by
   obtain ⟨r,h1,h2⟩:=zd x
   split at h2
   ·exact .cond h1 (fun h=>XRun.sound ok (h2.t h)) (fun h=>XRun.sound ok (h2.f h))
   ·exact h2.elim
 | .block id b,Q,D,σ,H,x=>.block (by rw [<- zbA];exact XRun.sound ok x)
 | .region id ops false,Q,D,σ,H,x=>by
   unfold XRun at x
   split at x
   ·exact x.o
   ·exact .regionX ok x
 | .region _ _ true,_,_,_,_,x=>x.o
 | .loop _,_,_,_,_,x=>x.o
 | .rangeFunc ..,_,_,_,_,x=>x.o
 | .scope _,_,_,_,_,x=>x.o
 | .label _,_,_,_,_,x=>x.o
 | .goto _,_,_,_,_,x=>x.o
 | .refuse _,_,_,_,_,x=>x.o
end
end GA
end
section
namespace GA
open Go Go.RowKit
def Ret (r0 : AV) (H0 : List Blk) : AV -> List Blk -> Prop:=fun r H=>r = r0 /\ H = H0
section
variable {P : Program} {T : Tab} {N : Nat} {ρ : Option Nat} {own : List Nat} {E : Env} {h : Nat -> Option Obj} {β : Nat -> Value} {H : List Blk} {w : World} {σ : St} {a : Act}
noncomputable def hall (h : Nat -> Option Obj) (β : Nat -> Value) (H : List Blk) (w : World) : Nat -> Option Obj:=by
 classical exact fun b=>if ∃ i,blkOf β H i = some b then w.heap[b]? else h b
theorem qz {b i : Nat} (e : blkOf β H i = some b) : hall h β H w b = w.heap[b]?:=by
 unfold hall;rw [if_pos ⟨i,e⟩]
theorem wE (s : SR P E h β H w) {b : Nat} {o : Obj} (e : h b = some o) : hall h β H w b = some o:=by
 unfold hall;split
 ·rename_i hh;obtain ⟨i,hi⟩:=hh;rw [s.fresh _ _ hi] at e;cases e
 ·exact e
theorem SR.all (s : SR P E h β H w) : SR P E (hall h β H w) β [] w:=by
 refine ⟨s.env,fun b o e=>?_,fun i x e=>by simp at e,fun i j x e=>by simp [blkOf] at e,fun i x e=>by simp [blkOf] at e,fun b o e=>⟨(s.frm b o e).1,?_⟩,fun i x e=>by simp [blkOf] at e⟩
 ·unfold hall at e;split at e
  ·exact e
  ·exact s.imm b o e
 ·unfold hall;split
  ·rename_i hh;obtain ⟨i,hi⟩:=hh;rw [s.fro _ _ hi] at e;cases e
  ·exact (s.frm b o e).2
def Froz (P : Program) (H : List Blk) (r r' : AV) : Prop:=
 ∀ E h β w,SR P E h β H w -> ∀ v,Rep P h β H r v -> Rep P (hall h β H w) β [] r' v
def jH (P : Program) (H : List Blk) (rs rs' : List AV) : Prop:=rs'.length = rs.length /\ ∀ (j : Nat) x,rs'[j]? = some x -> ∃ y,rs[j]? = some y /\ Froz P H y x
theorem Rep.none {β' : Nat -> Value} {r : AV} {v : Value} (x : Rep P h β [] r v) : Rep P h β' H r v:=by
 induction x with
 | bool b=>exact .bool b
 | int k n=>exact .int k n
 | nilp=>exact .nilp
 | ptr hi _=>exact hi.nil.elim
 | pim us h1 h2 h3 _ ih=>exact .pim us h1 h2 h3 ih
 | slnil=>exact .slnil
 | slemp=>exact .slemp
 | sl us h1 h2 h3 h4 h5 h6 h7 h8 _ ih=>exact .sl us h1 h2 h3 h4 h5 h6 h7 h8 ih
 | se=>exact .se
 | gr _ hi _=>exact hi.nil.elim
 | gp hi _=>exact hi.nil.elim
 | nilm=>exact .nilm
 | mp hi _=>exact hi.nil.elim
 | nilf=>exact .nilf
 | yld hi _=>exact hi.nil.elim
 | fn us h1 h2 _ ih=>exact .fn us h1 h2 ih
 | bf us h1 h2 _ ih=>exact .bf us h1 h2 ih
 | os hi _ _ _ _=>exact hi.nil.elim
 | agg us h1 h2 h3 _ ih=>exact .agg us h1 h2 h3 ih
 | tup us h1 h2 _ ih=>exact .tup us h1 h2 ih
 | im us h0 h1 h2 h3 h4 _ ih=>exact .im us h0 h1 h2 h3 h4 ih
theorem Froz.low {r : AV} (hl : r.low 0 = true) : Froz P H r r:=by
 intro E h β w s v hr
 have h0 : Rep P h β [] r v:=Rep.cut (H:=[]) (l:=H) hr hl
 have X : Ext h β [] (hall h β H w) β []:=⟨fun b o e=>wE s e,Nat.le_refl _,by simp⟩
 exact X.rep h0
theorem jH.low : ∀ {rs : List AV},lowL 0 rs = true -> jH P H rs rs:=
 fun {rs} hl=>⟨rfl,fun j x e=>⟨x,e,Froz.low ((zt.1 hl) x (List.mem_of_getElem? e))⟩⟩
theorem jH.nil : jH P H [] []:=⟨rfl,by simp⟩
theorem jH.cons {r r' : AV} {rs rs' : List AV} (h1 : Froz P H r r') (h2 : jH P H rs rs') : jH P H (r :: rs) (r' :: rs'):=by
 refine ⟨by simp [h2.1],fun j x e=>?_⟩
 cases j with
 | zero=>simp at e;subst e;exact ⟨r,rfl,h1⟩
 | succ j=>exact h2.2 j x (by simpa using e)
theorem Froz.tup {rs rs' : List AV} (hs : jH P H rs rs') : Froz P H (.tup rs) (.tup rs'):=by
 intro E h β w s v hr
 cases hr with
 | tup us h1 h2 h3 =>
   refine .tup us (by rw [h1,hs.1]) (fun j x e=>?_) (fun j x e=>?_)
   ·obtain ⟨y,e1,_⟩:=hs.2 j x e;exact h2 j y e1
   ·obtain ⟨y,e1,e2⟩:=hs.2 j x e;exact e2 E h β w s _ (h3 j y e1)
theorem Froz.agg {rs rs' : List AV} (hone : ∀ x ∈ rs',x.one = true) (hs : jH P H rs rs') : Froz P H (.agg rs) (.agg rs'):=by
 intro E h β w s v hr
 cases hr with
 | agg us h1 h0 h2 h3 =>
   refine .agg us (by rw [h1,hs.1]) hone (fun j x e=>?_) (fun j x e=>?_)
   ·obtain ⟨y,e1,_⟩:=hs.2 j x e;exact h2 j y e1
   ·obtain ⟨y,e1,e2⟩:=hs.2 j x e;exact e2 E h β w s _ (h3 j y e1)
theorem Froz.ptr {i o : Nat} {cs cs' : List AV} (hb : lget H i = some (.cells cs)) (hone : ∀ x ∈ cs',x.one = true) (hs : jH P H (cs.drop o) cs') : Froz P H (.ptr i o) (.pim cs'):=by
 rw [zr] at hb
 intro E h β w s v hr
 cases hr with
 | @ptr _ _ b hi h1 =>
   have hβ:=h1 cs hb
   obtain ⟨b',c,t,h2,h3,h4,h5,us,h6,h7⟩:=s.blk i _ hb
   rw [hβ] at h2;cases h2
   have hbo : blkOf β H i = some b:=by simp only [blkOf,hb,hβ];rfl
   refine .pim (fun j=>us (o + j)) hone ((qz hbo).trans h3) (fun j x e=>?_) (fun j x e=>?_)
   ·obtain ⟨y,e1,_⟩:=hs.2 j x e;rw [List.getElem?_drop] at e1;exact h6 _ y e1
   ·obtain ⟨y,e1,e2⟩:=hs.2 j x e;rw [List.getElem?_drop] at e1;exact e2 E h β w s _ (h7 _ y e1)
theorem Froz.gr {i n : Nat} {t : TypeId} {nl : Bool} {els els' : List AV} (hb : lget H i = some (.grow t nl els)) (hn : els.length = n) (hlen : els'.length = els.length) (hc : ∀ e ∈ els',e.cells.length = sz P t) (hone : ∀ x ∈ flat els',x.one = true)
  (hs : jH P H (flat els) (flat els')) : Froz P H (.gr i n) (.sl nl els'):=by
 rw [zr] at hb
 intro E h β w s v hr
 cases hr with
 | gr ho hi hv =>
   obtain ⟨h1,h2⟩:=hv _ _ _ hb
   have hβ:=h2 hn
   subst hβ
   rcases s.blk i _ hb with ⟨rfl,rfl,h3⟩ | ⟨rfl,rfl,b,h3⟩ | ⟨rfl,b,cap,c,h3,h4,h5,h6,h7,h8,h9,h10,h11,us,h12,h13⟩
   ·rw [h3]
    cases els' with | cons _ _=>simp at hlen | nil=>exact .slnil
   ·rw [h3]
    cases els' with | cons _ _=>simp at hlen | nil=>exact .slemp
   ·rw [h3]
    cases els' with
    | nil =>
      have : els.length = 0:=by simpa using hlen.symm
      rw [this];exact .slemp
    | cons e0 l0 =>
      have hbo : blkOf β H i = some b:=by simp only [blkOf,hb,h3,anchor];rw [if_neg (by omega)]
      refine .sl us (by rw [hlen]) (by simp) ((qz hbo).trans h5) hc h9 hone (by rw [hlen];exact h6) (fun j x e=>?_) (fun j x e=>?_)
      ·obtain ⟨y,e1,_⟩:=hs.2 j x e;rw [Nat.zero_add];exact h12 j y e1
      ·obtain ⟨y,e1,e2⟩:=hs.2 j x e;exact e2 E h β w s _ (h13 j y e1)
theorem Froz.grow {i n : Nat} {t : TypeId} {nl : Bool} {els : List AV} (hb : lget H i = some (.grow t nl els)) (hn : els.length = n) (hl : lowL 0 els = true) : Froz P H (.gr i n) (.sl nl els):=by
 intro E h β w s v hr
 have hb':=hb;rw [zr] at hb'
 cases hr with
 | gr ho hi hv =>
   rcases s.blk i _ hb' with ⟨rfl,rfl,_⟩ | ⟨rfl,rfl,_⟩ | ⟨rfl,b,cap,c,h3,h4,h5,h6,h7,h8,h9,h10,h11,us,h12,h13⟩
   ·exact Froz.gr hb hn rfl (by simp) (by simp [flat]) ⟨rfl,by simp [flat]⟩ E h β w s v (.gr ho hi hv)
   ·exact Froz.gr hb hn rfl (by simp) (by simp [flat]) ⟨rfl,by simp [flat]⟩ E h β w s v (.gr ho hi hv)
   ·exact Froz.gr hb hn rfl h10 h11 (jH.low (by rw [zt];exact jb.1 hl)) E h β w s v (.gr ho hi hv)
def xRes (T : Tab) (σ : St) (H : List Blk) : List ResultVar -> (List AV -> Prop) -> Prop
 | [],k=>k []
 | .tmp t :: l,k=>bnd (σ t) fun r=>xRes T σ H l fun rs=>k (r :: rs)
 | .cell a t :: l,k=>bnd (σ a) fun p=>xLoad T t H p fun r=>xRes T σ H l fun rs=>k (r :: rs)
structure XOut (P : Program) (H : List Blk) (r r0 : AV) : Prop where
 o : Froz P H r r0
def XFn (P : Program) (T : Tab) (res : List ResultVar) (r0 : AV) : Post:=fun e D σ H =>
 match e,D with
 | .normal,[] | .ret,[]=>xRes T σ H res fun rs=>XOut P H (pack rs) r0
 | _,_=>False
theorem zdN {t : TypeId} {p : AV} {k k' : AV -> Prop} (x : y0 P t H p k) (hk : ∀ r,k r -> k' r) : y0 P t H p k':=by
 unfold y0 at x ⊢
 refine zm x fun ti _ x=>zm x fun cs _ x=>?_
 split at x
 ·rename_i e;rw [if_pos e];exact ⟨x.1,hk _ x.2⟩
 ·rename_i e;rw [if_neg e];exact zm x fun _ _ x=>hk _ x
theorem wL (ok : zA P T) : ∀ {l : List ResultVar} {k : List AV -> Prop},xRes T σ H l k -> resA P σ H l k
 | [],_,h=>h
 | .tmp t :: l,k,h=>zm h fun _ _ h1=>wL ok h1
 | .cell a t :: l,k,h=>zm h fun _ _ h1=>zdN (fh ok h1) fun _ h2=>wL ok h2
structure Comp (P : Program) (f : FuncId) (rs : List AV) (r : AV) : Prop where
 lo : lowL 0 rs = true
 o : yo P f rs [] (Ret r [])
def argX (rs : List AV) : St:=fun t=>lget rs t
theorem zcU (rs : List AV) : argX rs = argsSt rs:=by funext t;exact zr _ _
theorem za.ret {f : FuncId} {rs : List AV} {r0 : AV} {k : AV -> List Blk -> Prop} (x : Comp P f rs r0) (hk : k r0 H) : za P f rs H k:=by
 refine ⟨x.o.1,fun E h β w vs s hr=>?_⟩
 classical
 let E' : Env:=⟨E.b,fun b=>if ∃ i,blkOf β H i = some b then w.heap[b]? else E.fr b,E.en⟩
 have s0 : SR P E' h β [] w:=by
  refine ⟨s.env,s.imm,fun i x e=>by simp at e,fun i j x e=>by simp [blkOf] at e,fun i x e=>by simp [blkOf] at e,fun b o e=>?_,fun i x e=>by simp [blkOf] at e⟩
  simp only [E'] at e
  split at e
  ·rename_i hh;obtain ⟨i,hi⟩:=hh;exact ⟨e,s.fresh _ _ hi⟩
  ·exact s.frm b o e
 have hr0 : RepL P h β [] rs vs:=⟨hr.1,fun j y e=>by
  obtain ⟨v,e1,e2⟩:=hr.2 j y e
  exact ⟨v,e1,Rep.cut (H:=[]) (l:=H) e2 ((zt.1 x.lo) y (List.mem_of_getElem? e))⟩⟩
 refine (x.o.2 E' h β w vs s0 hr0).mono ?_
 rintro e w' ⟨r,H',h',β',v,rfl,⟨rfl,rfl⟩,X,s',hrep⟩
 have X' : Ext h β H h' β H:=⟨X.imm,Nat.le_refl _,fun i x x' e e'=>by rw [e] at e';cases e';exact Blk.to_refl _ _ _⟩
 have hfr : ∀ i b o,blkOf β H i = some b -> w.heap[b]? = some o -> w'.heap[b]? = some o /\ h' b = none:=fun i b o e eo=>s'.frm b o (by simp only [E'];rw [if_pos ⟨i,e⟩];exact eo)
 have hown : ∀ i b,blkOf β H i = some b -> w'.heap[b]? = w.heap[b]?:=fun i b e=>by
  have hlt:=s.lt e
  have : w.heap[b]? = some w.heap[b]:=Array.getElem?_eq_getElem hlt
  rw [(hfr i b _ e this).1,this]
 refine ⟨r,H,h',β,v,rfl,hk,X',⟨s'.env,s'.imm,fun i x e=>?_,s.own,fun i b e=>?_,fun b o e=>?_,s.fro⟩,hrep.none⟩
 ·exact (s.blk i x e).keep X' rfl fun hd hd' b hb=>hown i b (by unfold blkOf;rw [e];cases x <;> first|exact absurd rfl hd|exact absurd rfl hd'|exact hb)
 ·have hlt:=s.lt e
  exact (hfr i b _ e (Array.getElem?_eq_getElem hlt)).2
 ·refine s'.frm b o ?_
  simp only [E'];rw [if_neg];exact e
  rintro ⟨i,hi⟩;rw [s.fro _ _ hi] at e;cases e
mutual
def AV.plain : AV -> Bool
 | .bool _ | .int _ _ | .nilp | .nilm | .nilf=>true
 | .sl true []=>true
 | .agg cs | .tup cs=>zaa cs
 | _=>false
def zaa : List AV -> Bool
 | []=>true
 | x :: l=>x.plain && zaa l
end
theorem vY : ∀ {l : List AV},zaa l = true ↔ ∀ x ∈ l,x.plain = true
 | []=>by simp [zaa]
 | x :: l=>by simp [zaa,vY (l:=l)]
theorem Rep.plain {h' : Nat -> Option Obj} {β' : Nat -> Value} {H' : List Blk} {r : AV} {v : Value} (x : Rep P h β H r v) (hp : r.plain = true) : Rep P h' β' H' r v:=by
 induction x with
 | bool b=>exact .bool b
 | int k n=>exact .int k n
 | nilp=>exact .nilp
 | nilm=>exact .nilm
 | nilf=>exact .nilf
 | slnil=>exact .slnil
 | agg us h1 h2 h3 _ ih =>
   simp only [AV.plain] at hp;rw [vY] at hp
   exact .agg us h1 h2 h3 fun j x e=>ih j x e (hp x (List.mem_of_getElem? e))
 | tup us h1 h2 _ ih =>
   simp only [AV.plain] at hp;rw [vY] at hp
   exact .tup us h1 h2 fun j x e=>ih j x e (hp x (List.mem_of_getElem? e))
 | _=>simp [AV.plain] at hp
theorem za.lend {f : FuncId} {rs rs' : List AV} {r0 : AV} {k : AV -> List Blk -> Prop} (x : Comp P f rs' r0) (hf : jH P H rs rs') (hp : r0.plain = true) (hk : k r0 H) : za P f rs H k:=by
 refine ⟨x.o.1,fun E h β w vs s hr=>?_⟩
 have hr0 : RepL P (hall h β H w) β [] rs' vs:=⟨by rw [hf.1];exact hr.1,fun j y e=>by
  obtain ⟨z,e1,e2⟩:=hf.2 j y e
  obtain ⟨v,e3,e4⟩:=hr.2 j z e1
  exact ⟨v,e3,e2 E h β w s v e4⟩⟩
 refine (x.o.2 E _ β w vs s.all hr0).mono ?_
 rintro e w' ⟨r,H',h',β',v,rfl,⟨rfl,rfl⟩,X,s',hrep⟩
 have hown : ∀ i b,blkOf β H i = some b -> w'.heap[b]? = w.heap[b]?:=fun i b e=>by
  have hlt:=s.lt e
  have e1 : w.heap[b]? = some w.heap[b]:=Array.getElem?_eq_getElem hlt
  have e2:=s'.imm b _ (X.imm b _ ((qz (h:=h) (w:=w) e).trans e1))
  rw [e2,e1]
 refine ⟨r,H,h,β,v,rfl,hk,Ext.refl _ _ _,⟨s'.env,fun b o e=>s'.imm b o (X.imm b o (wE s e)),fun i x e=>?_,s.own,s.fresh,fun b o e=>⟨(s'.frm b o e).1,(s.frm b o e).2⟩,s.fro⟩,hrep.plain hp⟩
 exact (s.blk i x e).keep (Ext.refl _ _ _) rfl fun hd hd' b hb=>hown i b (by unfold blkOf;rw [e];cases x <;> first|exact absurd rfl hd|exact absurd rfl hd'|exact hb)
end
def SubX : List (Nat × AV) -> St -> Prop
 | [],_=>True
 | (t,r) :: l,σ=>σ t = some r /\ SubX l σ
structure zh {G : Type} (I : G -> Prop) (L : G -> List (Nat × AV)) (hp : G -> List Blk) (μ : G -> Nat) (g : G) (D : List Nat) (D' : List Nat) (σ' : St) (H' : List Blk) : Prop where
 d : D' = D
 o : ∃ g',I g' /\ μ g' < μ g /\ hp g' = H' /\ SubX (L g') σ'
section
variable {P : Program} {T : Tab} {N : Nat} {ρ : Option Nat} {D : List Nat} {σ : St} {H : List Blk}
theorem yN : ∀ {l : List (Nat × AV)} {σ : St},SubX l σ -> ∀ t r,stX l t = some r -> σ t = some r
 | [],_,_,_,_,e=>by cases e
 | (u,x) :: l,σ,h,t,r,e=>by
   simp only [stX,yZ,upd] at e
   split at e
   ·rename_i h1;subst h1;cases e;exact h.1
   ·exact yN h.2 t r e
theorem Walk.loop {c : Code} {Q : Post} {G : Type} (ok : zA P T) (own : List Nat) (I : G -> Prop) (L : G -> List (Nat × AV)) (hp : G -> List Blk) (μ : G -> Nat) (g0 : G) (h0 : I g0) (hH : hp g0 = H) (hs : SubX (L g0) σ)
  (round : ∀ g,I g -> XRun P T N ρ own c (yW (zh I L hp μ g D) Q) D (stX (L g)) (hp g)) : Walk P N ρ (.loop c) Q D σ H:=by
 constructor
 refine AWp.loop (G:={g : G // I g}) (fun g=>stX (L g.1)) (fun g=>hp g.1) (fun g=>μ g.1) ⟨g0,h0⟩ (yN hs) hH fun g=>?_
 refine (XRun.sound ok (round g.1 g.2)).mono fun e D' σ' H' q=>?_
 cases e with
 | normal=>obtain ⟨h1,g',h2,h3,h4,h5⟩:=q;exact ⟨h1,⟨g',h2⟩,h3,h4,yN h5⟩
 | _=>exact q
theorem zh.go {G : Type} {I : G -> Prop} {L : G -> List (Nat × AV)} {hp : G -> List Blk} {μ : G -> Nat} {g : G} (g' : G) (h1 : I g') (h2 : μ g' < μ g) (h3 : hp g' = H) (h4 : SubX (L g') σ) : zh I L hp μ g D D σ H:=⟨rfl,g',h1,h2,h3,h4⟩
theorem XBr.tt {A B : Prop} (h : A) : XBr true A B:=⟨fun _=>h,nofun⟩
theorem XBr.ff {A B : Prop} (h : B) : XBr false A B:=⟨nofun,fun _=>h⟩
theorem XBr.yes {c : Bool} {A B : Prop} (e : c = true) (h : A) : XBr c A B:=by subst e;exact .tt h
theorem XBr.no {c : Bool} {A B : Prop} (e : c = false) (h : B) : XBr c A B:=by subst e;exact .ff h
theorem XBr.dec {p : Prop} [Decidable p] {A B : Prop} (h1 : p -> A) (h2 : ¬ p -> B) : XBr (decide p) A B:=⟨fun h=>h1 (of_decide_eq_true h),fun h=>h2 (of_decide_eq_false h)⟩
theorem XBr.beq {a b : Int} {A B : Prop} (h1 : a = b -> A) (h2 : a ≠ b -> B) : XBr (a == b) A B:=⟨fun h=>h1 (by simpa using h),fun h=>h2 (by simpa using h)⟩
theorem XBr.bne {a b : Int} {A B : Prop} (h1 : a ≠ b -> A) (h2 : a = b -> B) : XBr (a != b) A B:=⟨fun h=>h1 (by simpa using h),fun h=>h2 (by simpa using h)⟩
theorem XBr.not {b : Bool} {A B : Prop} (h : XBr b B A) : XBr (!b) A B:=⟨fun e=>h.2 (by simpa using e),fun e=>h.1 (by simpa using e)⟩
theorem XBr.mk' {b : Bool} {A B : Prop} (h1 : b = true -> A) (h2 : b = false -> B) : XBr b A B:=⟨h1,h2⟩
theorem XInt.i64 {x : Int} {k : AV -> Prop} (h1 : -9223372036854775808 <= x) (h2 : x <= 9223372036854775807) (h : k (.int .i64 x)) : XInt .i64 x k:=by
 refine ⟨?_⟩
 have : IntKind.i64.wrap x = x:=by
  simp only [IntKind.wrap,IntKind.bits,IntKind.signed];simp;omega
 rw [this];exact h
theorem XIx.map {α : Type} [Inhabited α] {f : α -> AV} {xs : List α} {n : Int} {w : Nat} {k : AV -> Prop} (h1 : 0 <= n) (h2 : n < xs.length) (hw : ∀ x,(f x).cells.length = w) (h : k (.pim (f (xs.getD n.toNat default)).cells)) : XIx (xs.map f) n w k:=by
 have e : nth (xs.map f) n = f (xs.getD n.toNat default):=by
  unfold nth
  have : n.toNat < xs.length:=by omega
  rw [List.getD_eq_getElem?_getD,List.getD_eq_getElem?_getD,List.getElem?_map,List.getElem?_eq_getElem this];rfl
 exact ⟨h1,by simpa using h2,by rw [e];exact hw _,by rw [e];exact h⟩
theorem XIx.nat {α : Type} [Inhabited α] {f : α -> AV} {xs : List α} {i w : Nat} {k : AV -> Prop} (h2 : i < xs.length) (hw : ∀ x,(f x).cells.length = w) (h : k (.pim (f (xs.getD i default)).cells)) : XIx (xs.map f) (i : Int) w k:=
 XIx.map (by omega) (by omega) hw h
theorem zck {cs : List AV} {off : Nat} {c : AV} (h : cs[off]? = some c) : cs.drop off = c :: cs.drop (off + 1):=by
 obtain ⟨h1,h2⟩:=List.getElem?_eq_some_iff.1 h
 rw [List.drop_eq_getElem_cons h1,h2]
theorem XArr.at {cs : List AV} {n : Int} {m w : Nat} {k : AV -> Prop} (c : AV) (h1 : 0 <= n) (h2 : n < m) (hc : cs[n.toNat * w]? = some c) (h : k (.pim (c :: cs.drop (n.toNat * w + 1)))) : XArr (.pim cs) n m w k:=
 ⟨h1,h2,by show k (.pim (cs.drop _));rw [zck hc];exact h⟩
theorem XArr.ptr {i o : Nat} {n : Int} {m w : Nat} {k : AV -> Prop} (h1 : 0 <= n) (h2 : n < m) (h : k (.ptr i (o + n.toNat * w))) : XArr (.ptr i o) n m w k:=⟨h1,h2,h⟩
theorem zdV {cs : List AV} {off : Nat} {k : List AV -> Prop} (c : AV) (hc : cs[off]? = some c) (h : k (c :: cs.drop (off + 1))) : xdrop off cs k:=by
 have : ∀ {off : Nat} {cs : List AV},off <= cs.length -> k (cs.drop off) -> xdrop off cs k:=by
  intro off;induction off with
  | zero=>intro cs _ h;exact h
  | succ n ih=>intro cs hl h;cases cs with
    | nil=>simp at hl
    | cons c cs=>exact ih (by simpa using hl) (by simpa using h)
 exact this (by have:=(List.getElem?_eq_some_iff.1 hc).1;omega) (by rw [zck hc];exact h)
theorem vL {a b : List AV} {n : Nat} {k : List AV -> Prop} (hn : a.length = n) (h : k b) : xdrop n (a ++ b) k:=by
 have : ∀ {n : Nat} {a : List AV},a.length = n -> xdrop n (a ++ b) k:=by
  intro n;induction n with
  | zero=>intro a ha;rw [List.eq_nil_of_length_eq_zero ha];exact h
  | succ n ih=>intro a ha;cases a with
    | nil=>simp at ha
    | cons c cs=>exact ih (by simpa using ha)
 exact this hn
theorem qW {c : List AV} {o : Nat} {vs : List AV} {k : List AV -> Prop} (c' : List AV) (hl : o + vs.length <= c.length) (e : splice c o vs = c') (h : k c') : xspl c o vs k:=by
 have : ∀ {c : List AV} {o : Nat} {vs : List AV} {k : List AV -> Prop},o + vs.length <= c.length -> k (splice c o vs) -> xspl c o vs k:=by
  intro c;induction c with
  | nil=>intro o vs k hl h;cases o with
    | zero=>cases vs with
      | nil=>rw [v8] at h;exact h
      | cons v vs=>simp at hl
    | succ o=>simp at hl
  | cons x c ih=>intro o vs k hl h;cases o with
    | zero=>cases vs with
      | nil=>rw [v8] at h;exact h
      | cons v vs=>rw [gZ] at h;exact ih (by simp at hl ⊢;omega) h
    | succ o=>rw [gU] at h;cases vs <;> exact ih (by simp at hl ⊢;omega) h
 exact this hl (by rw [e];exact h)
theorem XGet.map {α : Type} [Inhabited α] {f : α -> AV} {xs : List α} {n e : Nat} {k : List AV -> Prop} (h1 : n = xs.length) (h2 : e < n) (h : k (f (xs.getD e default)).cells) : XGet (xs.map f) n e k:=by
 have e' : (xs.map f).getD e default = f (xs.getD e default):=by
  have : e < xs.length:=by omega
  rw [List.getD_eq_getElem?_getD,List.getD_eq_getElem?_getD,List.getElem?_map,List.getElem?_eq_getElem this];rfl
 exact ⟨by simpa using h1,h2,by rw [e'];exact h⟩
theorem XPut.map {α : Type} {f : α -> AV} {xs : List α} {n e : Nat} {v : AV} {k : List AV -> Prop} (x : α) (hv : v = f x) (h1 : n = xs.length) (h2 : e < n) (h : k ((xs.set e x).map f)) : XPut (xs.map f) n e v k:=
 ⟨by simpa using h1,h2,by subst hv;rw [<- List.map_set];exact h⟩
theorem wC {α : Type} {f : α -> AV} {n : Nat} (h1 : ∀ x,(f x).cells.length = n) (h2 : ∀ x,(f x).isTup = false) : ∀ (xs : List α),wide n (xs.map f) = true
 | []=>rfl
 | x :: xs=>by simp [wide,h1,h2,wC h1 h2 xs]
theorem ja {α : Type} {f : α -> AV} {n : Nat} (hf : ∀ x,(f x).low n = true) (xs : List α) : lowL n (xs.map f) = true:=by
 rw [zt];intro x hx;obtain ⟨y,_,rfl⟩:=List.mem_map.1 hx;exact hf y
end
end GA
namespace GA
open Go
section
variable {P : Program} {H : List Blk}
theorem XOut.bool {b b' : Bool} (e : b = b') : XOut P H (.bool b) (.bool b'):=by subst e;exact ⟨.low rfl⟩
theorem XOut.int {q : IntKind} {n n' : Int} (e : n = n') : XOut P H (.int q n) (.int q n'):=by subst e;exact ⟨.low rfl⟩
end
end GA
namespace GA
open Go
theorem zS {α : Type} [Inhabited α] {xs : List α} {i : Nat} (h : i < xs.length) : xs.take (i + 1) = xs.take i ++ [xs.getD i default]:=by
 rw [List.take_add_one,List.getElem?_eq_getElem h,List.getD_eq_getElem?_getD,List.getElem?_eq_getElem h];rfl
abbrev ints (xs : List Int) : List AV:=xs.map (.int .i64)
theorem lowI {n : Nat} (xs : List Int) : lowL n (ints xs) = true:=ja (fun _=>rfl) xs
theorem zz (xs : List Int) : wide 1 (ints xs) = true:=wC (f:=.int .i64) (n:=1) (fun _=>rfl) (fun _=>rfl) xs
end GA
namespace GA
open Go
theorem ints_at {xs : List Int} {i : Nat} (h : i < xs.length) (b : List AV) : (ints xs ++ b)[i * 1]? = some (.int .i64 (xs.getD i 0)):=by
 rw [Nat.mul_one,List.getElem?_append_left (by simpa using h),List.getElem?_map,List.getElem?_eq_getElem h,List.getD_eq_getElem?_getD,List.getElem?_eq_getElem h];rfl
theorem XArr.ints {xs : List Int} {n : Int} {m : Nat} {k : AV -> Prop} (h1 : 0 <= n) (h2 : n < m) (hm : (m : Int) <= xs.length) (h : k (.pim (.int .i64 (xs.getD n.toNat 0) :: (GA.ints xs).drop (n.toNat * 1 + 1)))) : XArr (.pim (GA.ints xs)) n m 1 k:=
 XArr.at _ h1 h2 (by have:=ints_at (xs:=xs) (i:=n.toNat) (by omega) [];simpa using this) h
end GA
namespace GA
open Go
theorem XArr.pim0 {c : AV} {cs : List AV} {m w : Nat} {k : AV -> Prop} (h : k (.pim (c :: cs))) : XArr (.pim (c :: cs)) 0 (m + 1) w k:=⟨by omega,by omega,by show k (.pim (List.drop (0 * w) _));rw [Nat.zero_mul];exact h⟩
theorem XArr.pim1 {c d : AV} {cs : List AV} {m : Nat} {k : AV -> Prop} (h : k (.pim (d :: cs))) : XArr (.pim (c :: d :: cs)) 1 (m + 2) 1 k:=⟨by omega,by omega,h⟩
end GA
end
section
namespace GA
open Go Go.RowKit
section
variable {P : Program} {t : TypeId} {ag : Bool} {n : Nat} {z : Option AV} {q : Option Nat}
def zaZ (P : Program) (t : TypeId) : Nat -> List (Nat × Bool × Nat) -> Prop
 | _,[]=>True
 | i,x :: l=>fldK P t i = some x /\ zaZ P t (i + 1) l
theorem zaZ.get : ∀ {fs : List (Nat × Bool × Nat)} {j i : Nat} {x : Nat × Bool × Nat},zaZ P t j fs -> lget fs i = some x -> fldK P t (j + i) = some x
 | _ :: _,j,0,x,h,e=>by cases e;exact h.1
 | _ :: l,j,i + 1,x,h,e=>by
   have:=zaZ.get (fs:=l) (j:=j + 1) (i:=i) h.2 e
   rwa [show j + 1 + i = j + (i + 1) by omega] at this
def isStT (P : Program) (t : TypeId) : Bool:=match P.underlying t with | some (.struct _)=>true | _=>false
theorem place_st (hu : isStT P t = true) {i : Nat} {x : Nat × Bool × Nat} (h : fldK P t i = some x) : kP P t i = some (x.1,x.2.2):=by
 unfold isStT at hu;split at hu
 ·rename_i e;unfold kP;rw [e];simp [h]
 ·cases hu
theorem TeOk.st {fs : List (Nat × Bool × Nat)} (h1 : tyK P t = some (ag,n)) (h2 : sz P t = n) (h3 : ∀ z',z = some z' -> z6 P t = some z') (hu : isStT P t = true) (hf : zaZ P t 0 fs) (ha : allK P t = true) (hq : ∀ n,q = some n -> wV P t = some n) : TeOk P t ⟨ag,n,z,.st fs,q⟩:=
 ⟨h1,h2,h3,⟨fun i x e=>by have:=hf.get e;rw [Nat.zero_add] at this;exact ⟨this,place_st hu this⟩,ha⟩,hq⟩
theorem TeOk.ar {m : Nat} {el : TypeId} {ag' : Bool} {w : Nat} (h1 : tyK P t = some (ag,n)) (h2 : sz P t = n) (h3 : ∀ z',z = some z' -> z6 P t = some z') (hu : P.underlying t = some (.array m el)) (hf : arK P t = some (m,ag',w)) (ha : allK P t = true) (hq : ∀ n,q = some n -> wV P t = some n) : TeOk P t ⟨ag,n,z,.ar m ag' w,q⟩:=
 ⟨h1,h2,h3,⟨hf,ha,fun i=>by unfold kP;rw [hu];simp [hf]⟩,hq⟩
theorem qsome {n n' : Nat} (h : wV P t = some n) : some n = some n' -> wV P t = some n':=fun e=>e ▸ h
theorem qnone {n' : Nat} : none = some n' -> wV P t = some n':=nofun
theorem zsome {z z' : AV} (h : z6 P t = some z) : some z = some z' -> z6 P t = some z':=fun e=>e ▸ h
end
end GA
end
section
namespace GA
open Go Go.Proofs
set_option maxRecDepth 100000
@[irreducible] def rep (n : Nat) (x : AV) : List AV:=List.replicate n x
section
variable {P : Program} {t n : Nat} {ag : Bool} {z : AV}
theorem TeOk.c (h1 : tyK P t = some (ag,n):=by kernel_rfl) (h2 : sz P t = n:=by kernel_rfl) (h3 : z6 P t = some z:=by kernel_rfl) : TeOk P t ⟨ag,n,some z,.oth,none⟩:=⟨h1,h2,fun _=>zsome h3,trivial,fun _=>qnone⟩
theorem TeOk.i {q : IntKind} (h1 : tyK P t = some (ag,n):=by kernel_rfl) (h2 : sz P t = n:=by kernel_rfl) (h3 : z6 P t = some z:=by kernel_rfl) (h4 : P.underlying t = some (.int q):=by kernel_rfl) : TeOk P t ⟨ag,n,some z,.int q,none⟩:=⟨h1,h2,fun _=>zsome h3,h4,fun _=>qnone⟩
theorem TeOk.bo (h1 : tyK P t = some (ag,n):=by kernel_rfl) (h2 : sz P t = n:=by kernel_rfl) (h3 : z6 P t = some z:=by kernel_rfl) (h4 : qV P t:=by (unfold qV;kernel_rfl)) : TeOk P t ⟨ag,n,some z,.bool,none⟩:=⟨h1,h2,fun _=>zsome h3,h4,fun _=>qnone⟩
theorem TeOk.s (e : TypeId) {el w b : Nat} {ze : AV} (h1 : tyK P t = some (ag,n):=by kernel_rfl) (h2 : sz P t = n:=by kernel_rfl) (h3 : z6 P t = some z:=by kernel_rfl) (h4 : slE P t = some (el,w,b):=by kernel_rfl) (h5 : slK P t = some w:=by kernel_rfl) (h6 : P.underlying t = some (.slice e):=by kernel_rfl) (h7 : z6 P el = some ze:=by kernel_rfl) : TeOk P t ⟨ag,n,some z,.sl el w b ze,none⟩:=⟨h1,h2,fun _=>zsome h3,⟨h4,h5,⟨e,h6⟩,h7⟩,fun _=>qnone⟩
theorem TeOk.m {ze : AV} (h1 : tyK P t = some (ag,n):=by kernel_rfl) (h2 : sz P t = n:=by kernel_rfl) (h3 : z6 P t = some z:=by kernel_rfl) (h4 : mapT P t = some ze:=by kernel_rfl) : TeOk P t ⟨ag,n,some z,.mp ze,none⟩:=⟨h1,h2,fun _=>zsome h3,h4,fun _=>qnone⟩
theorem TeOk.m2 {ze : AV} (h1 : tyK P t = some (ag,n):=by kernel_rfl) (h2 : sz P t = n:=by kernel_rfl) (h3 : z6 P t = some z:=by kernel_rfl) (h4 : zbV P t = some ze:=by kernel_rfl) : TeOk P t ⟨ag,n,some z,.mp2 ze,none⟩:=⟨h1,h2,fun _=>zsome h3,h4,fun _=>qnone⟩
theorem TeOk.a (el : TypeId) {m w : Nat} {ag' : Bool} (h1 : tyK P t = some (ag,n):=by kernel_rfl) (h2 : sz P t = n:=by kernel_rfl) (h3 : z6 P t = some z:=by kernel_rfl) (h4 : P.underlying t = some (.array m el):=by kernel_rfl) (h5 : arK P t = some (m,ag',w):=by kernel_rfl) (h6 : allK P t = true:=by kernel_rfl) : TeOk P t ⟨ag,n,some z,.ar m ag' w,none⟩:=.ar h1 h2 (fun _=>zsome h3) h4 h5 h6 fun _=>qnone
theorem TeOk.aq (el : TypeId) {m w q : Nat} {ag' : Bool} (h1 : tyK P t = some (ag,n):=by kernel_rfl) (h2 : sz P t = n:=by kernel_rfl) (h3 : z6 P t = some z:=by kernel_rfl) (h4 : P.underlying t = some (.array m el):=by kernel_rfl) (h5 : arK P t = some (m,ag',w):=by kernel_rfl) (h6 : allK P t = true:=by kernel_rfl) (h7 : wV P t = some q:=by kernel_rfl) : TeOk P t ⟨ag,n,some z,.ar m ag' w,some q⟩:=.ar h1 h2 (fun _=>zsome h3) h4 h5 h6 fun _=>qsome h7
theorem TeOk.u {fs : List (Nat × Bool × Nat)} (h1 : tyK P t = some (ag,n):=by kernel_rfl) (h2 : sz P t = n:=by kernel_rfl) (h3 : z6 P t = some z:=by kernel_rfl) (h4 : isStT P t = true:=by kernel_rfl) (h5 : zaZ P t 0 fs:=by (repeat' first|exact trivial|refine And.intro ?_ ?_ | kernel_rfl)) (h6 : allK P t = true:=by kernel_rfl) : TeOk P t ⟨ag,n,some z,.st fs,none⟩:=.st h1 h2 (fun _=>zsome h3) h4 h5 h6 fun _=>qnone
theorem TeOk.uq {fs : List (Nat × Bool × Nat)} {q : Nat} (h1 : tyK P t = some (ag,n):=by kernel_rfl) (h2 : sz P t = n:=by kernel_rfl) (h3 : z6 P t = some z:=by kernel_rfl) (h4 : isStT P t = true:=by kernel_rfl) (h5 : zaZ P t 0 fs:=by (repeat' first|exact trivial|refine And.intro ?_ ?_ | kernel_rfl)) (h6 : allK P t = true:=by kernel_rfl) (h7 : wV P t = some q:=by kernel_rfl) : TeOk P t ⟨ag,n,some z,.st fs,some q⟩:=.st h1 h2 (fun _=>zsome h3) h4 h5 h6 fun _=>qsome h7
end
def te1 : TE:=⟨false,1,some (.nilf),.oth,none⟩
theorem te1_ok : TeOk Tryz.prog 1 te1:=.c
def te2 : TE:=⟨false,1,some (.int .i64 0),.int .i64,none⟩
theorem te2_ok : TeOk Tryz.prog 2 te2:=.i
def te3 : TE:=⟨false,1,some (.int .i64 0),.int .i64,none⟩
theorem te3_ok : TeOk Tryz.prog 3 te3:=.i
def te4 : TE:=⟨false,1,some (.bool false),.bool,none⟩
theorem te4_ok : TeOk Tryz.prog 4 te4:=.bo
def te5 : TE:=⟨false,1,some (.int .u8 0),.int .u8,none⟩
theorem te5_ok : TeOk Tryz.prog 5 te5:=.i
def te7 : TE:=⟨true,4,some (.agg [.int .i64 0,.int .i64 0,.bool false,.int .u8 0]),.st [(0,false,1),(1,false,1),(2,false,1),(3,false,1)],none⟩
theorem te7_ok : TeOk Tryz.prog 7 te7:=.u
def te12 : TE:=⟨false,1,some (.int .u64 0),.int .u64,none⟩
theorem te12_ok : TeOk Tryz.prog 12 te12:=.i
def te18 : TE:=⟨true,1,some (.agg [.nilp]),.st [(0,false,1)],none⟩
theorem te18_ok : TeOk Tryz.prog 18 te18:=.u
def te21 : TE:=⟨false,1,some (.int .i32 0),.int .i32,none⟩
theorem te21_ok : TeOk Tryz.prog 21 te21:=.i
def te22 : TE:=⟨false,1,some (.sl true []),.sl 3 1 8 (.int .i64 0),none⟩
theorem te22_ok : TeOk Tryz.prog 22 te22:=.s 3
def te23 : TE:=⟨false,1,some (.sl true []),.sl 22 1 24 (.sl true []),none⟩
theorem te23_ok : TeOk Tryz.prog 23 te23:=.s 22
def te24 : TE:=⟨false,1,some (.sl true []),.sl 36 2 16 (.agg [.int .i64 0,.int .i64 0]),none⟩
theorem te24_ok : TeOk Tryz.prog 24 te24:=.s 36
def te25 : TE:=⟨false,1,some (.sl true []),.sl 31 2 16 (.agg [.int .i64 0,.int .i64 0]),none⟩
theorem te25_ok : TeOk Tryz.prog 25 te25:=.s 31
def te26 : TE:=⟨true,5,some (.agg [.int .i64 0,.int .i64 0,.sl true [],.sl true [],.sl true []]),.st [(0,false,1),(1,false,1),(2,false,1),(3,false,1),(4,false,1)],none⟩
theorem te26_ok : TeOk Tryz.prog 26 te26:=.u
def te27 : TE:=⟨true,5,some (.agg [.int .i64 0,.int .i64 0,.sl true [],.sl true [],.sl true []]),.st [(0,false,1),(1,false,1),(2,false,1),(3,false,1),(4,false,1)],none⟩
theorem te27_ok : TeOk Tryz.prog 27 te27:=.u
def te28 : TE:=⟨false,1,some (.nilf),.oth,none⟩
theorem te28_ok : TeOk Tryz.prog 28 te28:=.c
def te29 : TE:=⟨true,2,some (.agg [.int .i64 0,.sl true []]),.st [(0,false,1),(1,false,1)],none⟩
theorem te29_ok : TeOk Tryz.prog 29 te29:=.u
def te30 : TE:=⟨true,2,some (.agg [.int .i64 0,.sl true []]),.st [(0,false,1),(1,false,1)],none⟩
theorem te30_ok : TeOk Tryz.prog 30 te30:=.u
def te31 : TE:=⟨true,2,some (.agg [.int .i64 0,.int .i64 0]),.ar 2 false 1,some 2⟩
theorem te31_ok : TeOk Tryz.prog 31 te31:=.aq 3
def te32 : TE:=⟨true,2,some (.agg [.int .i64 0,.int .i64 0]),.st [(0,false,1),(1,false,1)],some 2⟩
theorem te32_ok : TeOk Tryz.prog 32 te32:=.uq
def te33 : TE:=⟨true,2,some (.agg [.int .i64 0,.int .i64 0]),.st [(0,false,1),(1,false,1)],some 2⟩
theorem te33_ok : TeOk Tryz.prog 33 te33:=.uq
def te34 : TE:=⟨false,1,some (.nilp),.oth,none⟩
theorem te34_ok : TeOk Tryz.prog 34 te34:=.c
def te35 : TE:=⟨true,2,some (.agg [.int .i64 0,.int .i64 0]),.st [(0,false,1),(1,false,1)],some 2⟩
theorem te35_ok : TeOk Tryz.prog 35 te35:=.uq
def te36 : TE:=⟨true,2,some (.agg [.int .i64 0,.int .i64 0]),.st [(0,false,1),(1,false,1)],some 2⟩
theorem te36_ok : TeOk Tryz.prog 36 te36:=.uq
def te37 : TE:=⟨false,1,some (.sl true []),.sl 34 1 8 (.nilp),none⟩
theorem te37_ok : TeOk Tryz.prog 37 te37:=.s 34
def te38 : TE:=⟨false,1,some (.nilf),.oth,none⟩
theorem te38_ok : TeOk Tryz.prog 38 te38:=.c
def te39 : TE:=⟨false,1,some (.nilf),.oth,none⟩
theorem te39_ok : TeOk Tryz.prog 39 te39:=.c
def te40 : TE:=⟨false,1,some (.int .i64 0),.int .i64,none⟩
theorem te40_ok : TeOk Tryz.prog 40 te40:=.i
def te42 : TE:=⟨false,1,some (.nilf),.oth,none⟩
theorem te42_ok : TeOk Tryz.prog 42 te42:=.c
def te44 : TE:=⟨false,1,some (.nilf),.oth,none⟩
theorem te44_ok : TeOk Tryz.prog 44 te44:=.c
def te45 : TE:=⟨false,1,some (.nilf),.oth,none⟩
theorem te45_ok : TeOk Tryz.prog 45 te45:=.c
def te47 : TE:=⟨false,1,some (.nilf),.oth,none⟩
theorem te47_ok : TeOk Tryz.prog 47 te47:=.c
def te48 : TE:=⟨false,1,some (.nilf),.oth,none⟩
theorem te48_ok : TeOk Tryz.prog 48 te48:=.c
def te49 : TE:=⟨false,1,some (.nilf),.oth,none⟩
theorem te49_ok : TeOk Tryz.prog 49 te49:=.c
def te50 : TE:=⟨false,1,some (.nilf),.oth,none⟩
theorem te50_ok : TeOk Tryz.prog 50 te50:=.c
def te51 : TE:=⟨false,1,some (.nilf),.oth,none⟩
theorem te51_ok : TeOk Tryz.prog 51 te51:=.c
def te52 : TE:=⟨false,1,some (.nilf),.oth,none⟩
theorem te52_ok : TeOk Tryz.prog 52 te52:=.c
def te53 : TE:=⟨false,1,some (.nilf),.oth,none⟩
theorem te53_ok : TeOk Tryz.prog 53 te53:=.c
def te54 : TE:=⟨false,1,some (.nilf),.oth,none⟩
theorem te54_ok : TeOk Tryz.prog 54 te54:=.c
def te55 : TE:=⟨false,1,some (.nilf),.oth,none⟩
theorem te55_ok : TeOk Tryz.prog 55 te55:=.c
def te56 : TE:=⟨false,1,some (.nilf),.oth,none⟩
theorem te56_ok : TeOk Tryz.prog 56 te56:=.c
def te58 : TE:=⟨false,1,some (.nilf),.oth,none⟩
theorem te58_ok : TeOk Tryz.prog 58 te58:=.c
def te59 : TE:=⟨false,1,some (.nilf),.oth,none⟩
theorem te59_ok : TeOk Tryz.prog 59 te59:=.c
def te61 : TE:=⟨false,1,some (.nilf),.oth,none⟩
theorem te61_ok : TeOk Tryz.prog 61 te61:=.c
def te62 : TE:=⟨false,1,some (.nilf),.oth,none⟩
theorem te62_ok : TeOk Tryz.prog 62 te62:=.c
def te64 : TE:=⟨false,1,some (.nilf),.oth,none⟩
theorem te64_ok : TeOk Tryz.prog 64 te64:=.c
def te65 : TE:=⟨false,1,some (.nilp),.oth,none⟩
theorem te65_ok : TeOk Tryz.prog 65 te65:=.c
def te67 : TE:=⟨false,1,some (.nilf),.oth,none⟩
theorem te67_ok : TeOk Tryz.prog 67 te67:=.c
def te68 : TE:=⟨false,1,some (.nilf),.oth,none⟩
theorem te68_ok : TeOk Tryz.prog 68 te68:=.c
def te69 : TE:=⟨true,1,some (.agg [.nilf]),.st [(0,false,1)],none⟩
theorem te69_ok : TeOk Tryz.prog 69 te69:=.u
def te70 : TE:=⟨true,1,some (.agg [.nilf]),.st [(0,false,1)],none⟩
theorem te70_ok : TeOk Tryz.prog 70 te70:=.u
def te71 : TE:=⟨false,1,some (.nilf),.oth,none⟩
theorem te71_ok : TeOk Tryz.prog 71 te71:=.c
def te72 : TE:=⟨false,1,some (.nilf),.oth,none⟩
theorem te72_ok : TeOk Tryz.prog 72 te72:=.c
def te73 : TE:=⟨false,1,some (.nilf),.oth,none⟩
theorem te73_ok : TeOk Tryz.prog 73 te73:=.c
def te74 : TE:=⟨false,1,some (.nilf),.oth,none⟩
theorem te74_ok : TeOk Tryz.prog 74 te74:=.c
def te75 : TE:=⟨false,1,some (.nilf),.oth,none⟩
theorem te75_ok : TeOk Tryz.prog 75 te75:=.c
def te76 : TE:=⟨false,1,some (.nilf),.oth,none⟩
theorem te76_ok : TeOk Tryz.prog 76 te76:=.c
def te77 : TE:=⟨false,1,some (.nilf),.oth,none⟩
theorem te77_ok : TeOk Tryz.prog 77 te77:=.c
def te78 : TE:=⟨false,1,some (.nilf),.oth,none⟩
theorem te78_ok : TeOk Tryz.prog 78 te78:=.c
def te79 : TE:=⟨false,1,some (.nilf),.oth,none⟩
theorem te79_ok : TeOk Tryz.prog 79 te79:=.c
def te80 : TE:=⟨false,1,some (.nilf),.oth,none⟩
theorem te80_ok : TeOk Tryz.prog 80 te80:=.c
def te81 : TE:=⟨true,2,some (.agg [.int .i64 0,.int .i64 0]),.st [(0,false,1),(1,false,1)],some 2⟩
theorem te81_ok : TeOk Tryz.prog 81 te81:=.uq
def te82 : TE:=⟨true,2,some (.agg [.int .i64 0,.int .i64 0]),.st [(0,false,1),(1,false,1)],some 2⟩
theorem te82_ok : TeOk Tryz.prog 82 te82:=.uq
def te83 : TE:=⟨false,1,some (.nilf),.oth,none⟩
theorem te83_ok : TeOk Tryz.prog 83 te83:=.c
def te84 : TE:=⟨false,1,some (.nilf),.oth,none⟩
theorem te84_ok : TeOk Tryz.prog 84 te84:=.c
def te85 : TE:=⟨false,1,some (.sl true []),.sl 82 2 16 (.agg [.int .i64 0,.int .i64 0]),none⟩
theorem te85_ok : TeOk Tryz.prog 85 te85:=.s 82
def te86 : TE:=⟨false,1,some (.nilf),.oth,none⟩
theorem te86_ok : TeOk Tryz.prog 86 te86:=.c
def te87 : TE:=⟨false,1,some (.nilf),.oth,none⟩
theorem te87_ok : TeOk Tryz.prog 87 te87:=.c
def te88 : TE:=⟨false,1,some (.nilf),.oth,none⟩
theorem te88_ok : TeOk Tryz.prog 88 te88:=.c
def te89 : TE:=⟨false,1,some (.nilf),.oth,none⟩
theorem te89_ok : TeOk Tryz.prog 89 te89:=.c
def te90 : TE:=⟨true,512,some (.agg (List.replicate 512 (.int .i64 0))),.ar 512 false 1,some 512⟩
theorem te90_ok : TeOk Tryz.prog 90 te90:=.aq 3
def te91 : TE:=⟨true,9,some (.agg [.int .i64 0,.int .i64 0,.int .i64 0,.int .i64 0,.int .i64 0,.int .i64 0,.int .i64 0,.int .i64 0,.int .i64 0]),.ar 9 false 1,some 9⟩
theorem te91_ok : TeOk Tryz.prog 91 te91:=.aq 3
def te92 : TE:=⟨true,9,some (.agg [.int .i64 0,.int .i64 0,.int .i64 0,.int .i64 0,.int .i64 0,.int .i64 0,.int .i64 0,.int .i64 0,.int .i64 0]),.ar 9 false 1,some 9⟩
theorem te92_ok : TeOk Tryz.prog 92 te92:=.aq 3
def te93 : TE:=⟨true,526,some (.agg ([.int .i64 0,.int .i64 0,.sl true [],.sl true [],.sl true []] ++ List.replicate 521 (.int .i64 0))),.st [(0,true,5),(5,true,512),(517,true,9)],none⟩
theorem te93_ok : TeOk Tryz.prog 93 te93:=.u
def te94 : TE:=⟨true,526,some (.agg ([.int .i64 0,.int .i64 0,.sl true [],.sl true [],.sl true []] ++ List.replicate 521 (.int .i64 0))),.st [(0,true,5),(5,true,512),(517,true,9)],none⟩
theorem te94_ok : TeOk Tryz.prog 94 te94:=.u
def te95 : TE:=⟨false,1,some (.nilf),.oth,none⟩
theorem te95_ok : TeOk Tryz.prog 95 te95:=.c
def te96 : TE:=⟨false,1,some (.nilf),.oth,none⟩
theorem te96_ok : TeOk Tryz.prog 96 te96:=.c
def te97 : TE:=⟨false,1,some (.sl true []),.sl 142 2 16 (.agg [.int .i64 0,.int .i64 0]),none⟩
theorem te97_ok : TeOk Tryz.prog 97 te97:=.s 142
def te98 : TE:=⟨true,5,some (.agg [.int .i64 0,.int .i64 0,.sl true [],.sl true [],.sl true []]),.st [(0,false,1),(1,false,1),(2,false,1),(3,false,1),(4,false,1)],none⟩
theorem te98_ok : TeOk Tryz.prog 98 te98:=.u
def te99 : TE:=⟨true,5,some (.agg [.int .i64 0,.int .i64 0,.sl true [],.sl true [],.sl true []]),.st [(0,false,1),(1,false,1),(2,false,1),(3,false,1),(4,false,1)],none⟩
theorem te99_ok : TeOk Tryz.prog 99 te99:=.u
def te100 : TE:=⟨false,1,some (.nilf),.oth,none⟩
theorem te100_ok : TeOk Tryz.prog 100 te100:=.c
def te101 : TE:=⟨false,1,some (.nilf),.oth,none⟩
theorem te101_ok : TeOk Tryz.prog 101 te101:=.c
def te103 : TE:=⟨false,1,some (.nilf),.oth,none⟩
theorem te103_ok : TeOk Tryz.prog 103 te103:=.c
def te104 : TE:=⟨false,1,some (.nilf),.oth,none⟩
theorem te104_ok : TeOk Tryz.prog 104 te104:=.c
def te105 : TE:=⟨false,1,some (.sl true []),.sl 4 1 1 (.bool false),none⟩
theorem te105_ok : TeOk Tryz.prog 105 te105:=.s 4
def te106 : TE:=⟨false,1,some (.nilf),.oth,none⟩
theorem te106_ok : TeOk Tryz.prog 106 te106:=.c
def te107 : TE:=⟨false,1,some (.nilf),.oth,none⟩
theorem te107_ok : TeOk Tryz.prog 107 te107:=.c
def te108 : TE:=⟨false,1,some (.nilf),.oth,none⟩
theorem te108_ok : TeOk Tryz.prog 108 te108:=.c
def te109 : TE:=⟨false,1,some (.nilf),.oth,none⟩
theorem te109_ok : TeOk Tryz.prog 109 te109:=.c
def te110 : TE:=⟨false,1,some (.nilf),.oth,none⟩
theorem te110_ok : TeOk Tryz.prog 110 te110:=.c
def te112 : TE:=⟨false,1,some (.nilf),.oth,none⟩
theorem te112_ok : TeOk Tryz.prog 112 te112:=.c
def te113 : TE:=⟨false,1,some (.nilf),.oth,none⟩
theorem te113_ok : TeOk Tryz.prog 113 te113:=.c
def te115 : TE:=⟨false,1,some (.nilf),.oth,none⟩
theorem te115_ok : TeOk Tryz.prog 115 te115:=.c
def te116 : TE:=⟨false,1,some (.nilf),.oth,none⟩
theorem te116_ok : TeOk Tryz.prog 116 te116:=.c
def te117 : TE:=⟨false,1,some (.nilf),.oth,none⟩
theorem te117_ok : TeOk Tryz.prog 117 te117:=.c
def te118 : TE:=⟨false,1,some (.nilf),.oth,none⟩
theorem te118_ok : TeOk Tryz.prog 118 te118:=.c
def te119 : TE:=⟨false,1,some (.nilf),.oth,none⟩
theorem te119_ok : TeOk Tryz.prog 119 te119:=.c
def te120 : TE:=⟨false,1,some (.nilf),.oth,none⟩
theorem te120_ok : TeOk Tryz.prog 120 te120:=.c
def te121 : TE:=⟨false,1,some (.nilf),.oth,none⟩
theorem te121_ok : TeOk Tryz.prog 121 te121:=.c
def te122 : TE:=⟨false,1,some (.nilf),.oth,none⟩
theorem te122_ok : TeOk Tryz.prog 122 te122:=.c
def te123 : TE:=⟨false,1,some (.nilf),.oth,none⟩
theorem te123_ok : TeOk Tryz.prog 123 te123:=.c
def te125 : TE:=⟨false,1,some (.nilf),.oth,none⟩
theorem te125_ok : TeOk Tryz.prog 125 te125:=.c
def te126 : TE:=⟨false,1,some (.nilf),.oth,none⟩
theorem te126_ok : TeOk Tryz.prog 126 te126:=.c
def te127 : TE:=⟨false,1,some (.nilf),.oth,none⟩
theorem te127_ok : TeOk Tryz.prog 127 te127:=.c
def te128 : TE:=⟨false,1,some (.nilf),.oth,none⟩
theorem te128_ok : TeOk Tryz.prog 128 te128:=.c
def te129 : TE:=⟨false,1,some (.nilf),.oth,none⟩
theorem te129_ok : TeOk Tryz.prog 129 te129:=.c
def te130 : TE:=⟨false,1,some (.nilf),.oth,none⟩
theorem te130_ok : TeOk Tryz.prog 130 te130:=.c
def te131 : TE:=⟨false,1,some (.nilf),.oth,none⟩
theorem te131_ok : TeOk Tryz.prog 131 te131:=.c
def te132 : TE:=⟨false,1,some (.nilf),.oth,none⟩
theorem te132_ok : TeOk Tryz.prog 132 te132:=.c
def te133 : TE:=⟨false,1,some (.nilf),.oth,none⟩
theorem te133_ok : TeOk Tryz.prog 133 te133:=.c
def te134 : TE:=⟨false,1,some (.nilf),.oth,none⟩
theorem te134_ok : TeOk Tryz.prog 134 te134:=.c
def te135 : TE:=⟨false,1,some (.nilf),.oth,none⟩
theorem te135_ok : TeOk Tryz.prog 135 te135:=.c
def te136 : TE:=⟨false,1,some (.nilf),.oth,none⟩
theorem te136_ok : TeOk Tryz.prog 136 te136:=.c
def te137 : TE:=⟨false,1,some (.nilf),.oth,none⟩
theorem te137_ok : TeOk Tryz.prog 137 te137:=.c
def te138 : TE:=⟨false,1,some (.nilm),.mp (.int .i64 0),none⟩
theorem te138_ok : TeOk Tryz.prog 138 te138:=.m
def te140 : TE:=⟨false,1,some (.nilf),.oth,none⟩
theorem te140_ok : TeOk Tryz.prog 140 te140:=.c
def te141 : TE:=⟨false,1,some (.nilf),.oth,none⟩
theorem te141_ok : TeOk Tryz.prog 141 te141:=.c
def te142 : TE:=⟨true,2,some (.agg [.int .i64 0,.int .i64 0]),.st [(0,false,1),(1,false,1)],some 2⟩
theorem te142_ok : TeOk Tryz.prog 142 te142:=.uq
def te143 : TE:=⟨false,1,some (.nilf),.oth,none⟩
theorem te143_ok : TeOk Tryz.prog 143 te143:=.c
def te144 : TE:=⟨false,1,some (.nilf),.oth,none⟩
theorem te144_ok : TeOk Tryz.prog 144 te144:=.c
def te145 : TE:=⟨false,1,some (.nilf),.oth,none⟩
theorem te145_ok : TeOk Tryz.prog 145 te145:=.c
def te146 : TE:=⟨false,1,some (.nilf),.oth,none⟩
theorem te146_ok : TeOk Tryz.prog 146 te146:=.c
def te147 : TE:=⟨false,1,some (.nilf),.oth,none⟩
theorem te147_ok : TeOk Tryz.prog 147 te147:=.c
def te148 : TE:=⟨false,1,some (.nilf),.oth,none⟩
theorem te148_ok : TeOk Tryz.prog 148 te148:=.c
def te149 : TE:=⟨false,1,some (.nilf),.oth,none⟩
theorem te149_ok : TeOk Tryz.prog 149 te149:=.c
def te150 : TE:=⟨false,1,some (.nilf),.oth,none⟩
theorem te150_ok : TeOk Tryz.prog 150 te150:=.c
def te151 : TE:=⟨false,1,some (.nilf),.oth,none⟩
theorem te151_ok : TeOk Tryz.prog 151 te151:=.c
def te152 : TE:=⟨false,1,some (.nilf),.oth,none⟩
theorem te152_ok : TeOk Tryz.prog 152 te152:=.c
def te153 : TE:=⟨false,1,some (.nilf),.oth,none⟩
theorem te153_ok : TeOk Tryz.prog 153 te153:=.c
def te156 : TE:=⟨true,0,some (.agg []),.ar 0 false 1,none⟩
theorem te156_ok : TeOk Tryz.prog 156 te156:=.a 16
def te157 : TE:=⟨true,0,some (.agg []),.st [(0,true,0)],none⟩
theorem te157_ok : TeOk Tryz.prog 157 te157:=.u
def te159 : TE:=⟨false,1,some (.int .u32 0),.int .u32,none⟩
theorem te159_ok : TeOk Tryz.prog 159 te159:=.i
def te162 : TE:=⟨false,1,some (.nilf),.oth,none⟩
theorem te162_ok : TeOk Tryz.prog 162 te162:=.c
def te163 : TE:=⟨false,1,some (.nilp),.oth,none⟩
theorem te163_ok : TeOk Tryz.prog 163 te163:=.c
def te166 : TE:=⟨true,11,some (.agg [.int .u64 0,.int .u64 0,.int .u32 0,.int .u8 0,.int .u8 0,.int .u8 0,.int .u8 0,.nilf,.nilp,.int .i32 0,.int .i32 0]),.st [(0,false,1),(1,false,1),(2,false,1),(3,false,1),(4,false,1),(5,false,1),(6,false,1),(7,false,1),(8,false,1),(9,false,1),(10,false,1)],none⟩
theorem te166_ok : TeOk Tryz.prog 166 te166:=.u
def tab : Tab:=[none,some te1,some te2,some te3,some te4,some te5,none,some te7,none,none,none,none,some te12,none,none,none,none,none,some te18,none,none,some te21,some te22,some te23,some te24,some te25,some te26,some te27,some te28,some te29,some te30,some te31,some te32,some te33,some te34,some te35,some te36,some te37,some te38,some te39,some te40,none,some te42,none,some te44,some te45,none,some te47,some te48,some te49,some te50,some te51,some te52,some te53,some te54,some te55,some te56,none,some te58,some te59,none,some te61,some te62,none,some te64,some te65,none,some te67,some te68,some te69,some te70,some te71,some te72,some te73,some te74,some te75,some te76,some te77,some te78,some te79,some te80,some te81,some te82,some te83,some te84,some te85,some te86,some te87,some te88,some te89,some te90,some te91,some te92,some te93,some te94,some te95,some te96,some te97,some te98,some te99,some te100,some te101,none,some te103,some te104,some te105,some te106,some te107,some te108,some te109,some te110,none,some te112,some te113,none,some te115,some te116,some te117,some te118,some te119,some te120,some te121,some te122,some te123,none,some te125,some te126,some te127,some te128,some te129,some te130,some te131,some te132,some te133,some te134,some te135,some te136,some te137,some te138,none,some te140,some te141,some te142,some te143,some te144,some te145,some te146,some te147,some te148,some te149,some te150,some te151,some te152,some te153,none,none,some te156,some te157,none,some te159,none,none,some te162,some te163,none,none,some te166]
theorem zb : zA Tryz.prog tab:=⟨te1_ok,te2_ok,te3_ok,te4_ok,te5_ok,te7_ok,te12_ok,te18_ok,te21_ok,te22_ok,te23_ok,te24_ok,te25_ok,te26_ok,te27_ok,te28_ok,te29_ok,te30_ok,te31_ok,te32_ok,te33_ok,te34_ok,te35_ok,te36_ok,te37_ok,te38_ok,te39_ok,te40_ok,te42_ok,te44_ok,te45_ok,te47_ok,te48_ok,te49_ok,te50_ok,te51_ok,te52_ok,te53_ok,te54_ok,te55_ok,te56_ok,te58_ok,te59_ok,te61_ok,te62_ok,te64_ok,te65_ok,te67_ok,te68_ok,te69_ok,te70_ok,te71_ok,te72_ok,te73_ok,te74_ok,te75_ok,te76_ok,te77_ok,te78_ok,te79_ok,te80_ok,te81_ok,te82_ok,te83_ok,te84_ok,te85_ok,te86_ok,te87_ok,te88_ok,te89_ok,te90_ok,te91_ok,te92_ok,te93_ok,te94_ok,te95_ok,te96_ok,te97_ok,te98_ok,te99_ok,te100_ok,te101_ok,te103_ok,te104_ok,te105_ok,te106_ok,te107_ok,te108_ok,te109_ok,te110_ok,te112_ok,te113_ok,te115_ok,te116_ok,te117_ok,te118_ok,te119_ok,te120_ok,te121_ok,te122_ok,te123_ok,te125_ok,te126_ok,te127_ok,te128_ok,te129_ok,te130_ok,te131_ok,te132_ok,te133_ok,te134_ok,te135_ok,te136_ok,te137_ok,te138_ok,te140_ok,te141_ok,te142_ok,te143_ok,te144_ok,te145_ok,te146_ok,te147_ok,te148_ok,te149_ok,te150_ok,te151_ok,te152_ok,te153_ok,te156_ok,te157_ok,te159_ok,te162_ok,te163_ok,te166_ok,trivial⟩
end GA
end
section
namespace GA
open Go Go.RowKit
def xPend (P : Program) (T : Tab) (N : Nat) (own : List Nat) (Q : Post) (D : List Nat) (σ : St) (H : List Blk) (pend : Option Code) : Prop:=
 match pend with
 | none=>Q .normal D σ H
 | some c=>XRun P T N none own c Q D σ H
def zb7 (P : Program) (T : Tab) (N : Nat) (own : List Nat) (Q : Post) (D : List Nat) (σ : St) (i : Nat) (H : List Blk) : Prop:=
 match lget H i with
 | some (.lp st pend _ _ _ _ _ _)=>match st with
   | .busy=>False
   | _=>hset H i .dead fun H'=>xPend P T N own Q D σ H' pend
 | _=>False
def xPuts : List Nat -> List AV -> St -> Option St
 | [],[],σ=>some σ
 | t :: ts,r :: rs,σ=>xPuts ts rs (updX σ t r)
 | _,_,_=>none
def xRound (i : Nat) (K : AV -> List Blk -> Prop) : Post:=fun e _ _ H =>
 match lget H i with
 | some (.lp _ _ f tm ps x y n)=>match e with
   | .normal=>hset H i (.lp .ready none f tm ps x y n) fun H'=>K (.bool true) H'
   | .ret=>hset H i (.lp .done (some .ret) f tm ps x y n) fun H'=>K (.bool false) H'
   | .exit id=>hset H i (.lp .done (some (.exit id)) f tm ps x y n) fun H'=>K (.bool false) H'
   | _=>False
 | _=>False
def xBegin (P : Program) (T : Tab) (own : List Nat) (i : Nat) (K : AV -> List Blk -> Prop) (ρ : Option Nat) : Post:=fun e D σ H =>
 match e,lget H i with
 | .normal,some (.lp .ready pend f tm ps x y n)=>hset H i (.lp .busy pend f tm ps x y n) fun H'=>XRun P T n ρ own y (xRound i K) D σ H'
 | _,_=>False
section
variable {P : Program} {T : Tab} {N : Nat} {ρ : Option Nat} {own : List Nat} {E : Env} {h : Nat -> Option Obj} {β : Nat -> Value} {H : List Blk} {w : World} {σ : St} {a : Act} {D : List Nat}
theorem za1 : ∀ {ts : List Nat} {rs : List AV} {vs : List Value} {σ σ' : St} {tmps : Array Value},xPuts ts rs σ = some σ' -> RepL P h β H rs vs -> (∀ t ∈ ts,t < tmps.size) ->
  (∀ t r,σ t = some r -> ∃ v,tmps[t]? = some v /\ Rep P h β H r v) -> vs.length = ts.length /\
  ∀ t r,σ' t = some r -> ∃ v,((ts.zip vs).foldl (fun (tmps : Array Value) (x : Nat × Value)=>tmps.setIfInBounds x.1 x.2) tmps)[t]? = some v /\ Rep P h β H r v
 | [],[],vs,σ,σ',tmps,e,hr,_,F=>by
   cases e
   have : vs = []:=List.eq_nil_of_length_eq_zero hr.1
   subst this;exact ⟨rfl,F⟩
 | t :: ts,r :: rs,vs,σ,σ',tmps,e,hr,hb,F=>by
   cases vs with
   | nil=>have:=hr.1;simp at this
   | cons v vs =>
     obtain ⟨v',e1,e2⟩:=hr.2 0 r rfl
     simp at e1;subst e1
     have hr' : RepL P h β H rs vs:=⟨by have:=hr.1;simpa using this,fun j x ex=>by have:=hr.2 (j + 1) x (by simpa using ex);simpa using this⟩
     have F' : ∀ u x,updX σ t r u = some x -> ∃ y,(tmps.setIfInBounds t v)[u]? = some y /\ Rep P h β H x y:=by
      intro u x ex
      rw [yZ] at ex;unfold upd at ex
      by_cases hu : u = t
      ·subst hu;simp at ex;subst ex
       exact ⟨v,by simp [hb u (by simp)],e2⟩
      ·simp [hu] at ex
       obtain ⟨y,g1,g2⟩:=F u x ex
       exact ⟨y,by rw [Array.getElem?_setIfInBounds_ne (Ne.symm hu)];exact g1,g2⟩
     obtain ⟨g1,g2⟩:=za1 (tmps:=tmps.setIfInBounds t v) (show xPuts ts rs (updX σ t r) = some σ' from e) hr' (fun u hu=>by simpa using hb u (by simp [hu])) F'
     exact ⟨by simp [g1],by simpa using g2⟩
 | [],_ :: _,_,_,_,_,e,_,_,_=>by cases e
 | _ :: _,[],_,_,_,_,e,_,_,_=>by cases e
theorem Walk.range {g : Operand} {ps : Array Tmp} {assign body : Code} {Q : Post} {f : FuncId} {caps : List AV} (ok : zA P T) (tm : List (Nat × AV)) (hg : ev σ g = some (.fn f caps)) (ht : SubX tm σ)
  (x : ∀ fn,za P f (.yld (H.length + 1) :: caps) (H ++ [.raw (.deferred (some []))] ++ [.lp .ready none fn tm ps assign body N]) fun _ H'=>zb7 P T N own Q (H.length :: D) σ (H.length + 1) H') :
  Walk P N none (.rangeFunc g ps assign body) Q D σ H:=by
 constructor
 intro E h β a w s
 refine wpIn_rangeFunc fun fn _=>?_
 have hf:=s.fits.ev hg
 generalize hv : a.eval g = fval at hf
 cases hf with
 | @fn _ _ vs us hs hc hr =>
   obtain ⟨hent,hcall⟩:=(x fn).o
   let w1:=(w.alloc (.deferred (some []))).alloc (.loop { state:=.ready,pending:=none,fn,tmps:=a.tmps,params:=ps,assign,body,defers:=w.heap.size })
   -- the blocks
   obtain ⟨s1,X1⟩:=s.sr.push (w':=w.alloc (.deferred (some []))) s.sr.env (fun k hk=>Below.heap_alloc _ _ _ hk) (.pointer (some ⟨w.heap.size,0,none⟩)) (.raw (.deferred (some []))) (by intro b hb;simp [anchor] at hb;omega)
    (fun X=>⟨w.heap.size,by simp [upb],heap_alloc_new w _⟩)
   have hsz : (w.alloc (.deferred (some []))).heap.size = w.heap.size + 1:=World.size_alloc _ _
   obtain ⟨s2,X2⟩:=s1.push (w':=w1) s.sr.env (fun k hk=>Below.heap_alloc _ _ _ hk) (.pointer (some ⟨w.heap.size + 1,0,none⟩)) (.lp .ready none fn tm ps assign body N) (by intro b hb;simp [anchor] at hb;omega)
    (fun X=>⟨w.heap.size + 1,w.heap.size,a.tmps,by simp [upb],by rw [<- hsz];exact heap_alloc_new _ _,s.size,fun t r e=>by
     have : σ t = some r:=by
      have : ∀ (l : List (Nat × AV)),SubX l σ -> (t,r) ∈ l -> σ t = some r:=by
       intro l;induction l with
       | nil=>intro _ h;cases h
       | cons p l ih=>intro h1 h2;rcases List.mem_cons.1 h2 with h2 | h2
                      ·subst h2;exact h1.1
                      ·exact ih h1.2 h2
      exact this tm ht e
     obtain ⟨v,e1,e2⟩:=s.fits t r this
     exact ⟨v,e1,X.rep (X1.rep e2)⟩⟩)
   have hl2 : (H ++ [Blk.raw (.deferred (some []))]).length = H.length + 1:=by simp
   rw [hl2] at s2 X2
   have X:=X1.trans X2
   have hlp : (H ++ [Blk.raw (.deferred (some []))] ++ [Blk.lp .ready none fn tm ps assign body N])[H.length + 1]? = some (.lp .ready none fn tm ps assign body N):=by
    rw [List.getElem?_append_right (by simp)];simp
   have hraw : (H ++ [Blk.raw (.deferred (some []))] ++ [Blk.lp .ready none fn tm ps assign body N])[H.length]? = some (.raw (.deferred (some []))):=by
    rw [List.getElem?_append_left (by simp),List.getElem?_append_right (by simp)];simp
   have hy : Rep P h (upb (upb β H.length (.pointer (some ⟨w.heap.size,0,none⟩))) (H.length + 1) (.pointer (some ⟨w.heap.size + 1,0,none⟩))) (H ++ [.raw (.deferred (some []))] ++ [.lp .ready none fn tm ps assign body N]) (.yld (H.length + 1)) (.func (.yield (w.heap.size + 1)) #[] #[]):=
    .yld (.of hlp rfl) fun y _ _=>by simp [upb]
   have hmk : Rep P h (upb (upb β H.length (.pointer (some ⟨w.heap.size,0,none⟩))) (H.length + 1) (.pointer (some ⟨w.heap.size + 1,0,none⟩))) (H ++ [.raw (.deferred (some []))] ++ [.lp .ready none fn tm ps assign body N]) (.yld H.length) (.func (.yield w.heap.size) #[] #[]):=
    .yld (.of hraw rfl) fun y _ _=>by simp [upb]
   have hargs : RepL P h (upb (upb β H.length (.pointer (some ⟨w.heap.size,0,none⟩))) (H.length + 1) (.pointer (some ⟨w.heap.size + 1,0,none⟩))) (H ++ [.raw (.deferred (some []))] ++ [.lp .ready none fn tm ps assign body N]) (.yld (H.length + 1) :: caps) (.func (.yield (w.heap.size + 1)) #[] #[] :: vs.toList):=
    .cons hy ⟨by simpa using hs,fun j y e=>⟨us j,by simpa using hc j y e,X.rep (hr j y e)⟩⟩
   have hres : (resolve a.eval (rangeCall g (w.heap.size + 1)) 0).run P w1 = .ok { target:=.fn (.func f) vs,args:=#[.func (.yield (w.heap.size + 1)) #[] #[]] } w1:=by
    have hcst : ∀ v,a.eval (.const v) = v:=fun _=>rfl
    simp [resolve,hv,Deferred.ofValue,hcst]
   have hinv : (invoke (.fn (.func f) vs) #[.func (.yield (w.heap.size + 1)) #[] #[]]).run P w1 = .ok (.enter f (.func (.yield (w.heap.size + 1)) #[] #[] :: vs.toList).toArray) w1:=by
    have : (#[Value.func (.yield (w.heap.size + 1)) #[] #[]] ++ vs) = (.func (.yield (w.heap.size + 1)) #[] #[] :: vs.toList).toArray:=by apply Array.ext';simp
    simp only [invoke,wI hent,this]
   refine ⟨w.heap.size + 1,_,w1,_,w1,f,_,w1,run_enterLoop_outer fn a.tmps ps assign body,hres,fun _ _=>trivial,hinv,fun h=>by simp at h,?_⟩
   have hc2:=hcall E h _ w1 _ s2 hargs
   refine (show CallsIn (FW none) (0 - 1) P f _ w1 _ from hc2.mono ?_)
   rintro e w' ⟨r,H',h',β',v,rfl,hk,X',s',_⟩
   -- the end
   unfold zb7 at hk
   split at hk
   case h_2=>exact hk.elim
   rename_i st pend f' tm' ps' as' bo' n' hl
   rw [zr] at hl
   have hto:=X'.to _ _ _ hlp hl
   rcases hto with hd | ⟨st2,pend2,he,hβ⟩
   ·cases hd
   ·cases he
    have hβ1 : β' (H.length + 1) = .pointer (some ⟨w.heap.size + 1,0,none⟩):=by rw [hβ];simp [upb]
    obtain ⟨b,dfr,tmps,h1,h2,h3,h4⟩:=s'.blk _ _ hl
    rw [hβ1] at h1;cases h1
    have hnb : st ≠ .busy:=by rintro rfl;exact hk
    have hk2 : hset H' (H.length + 1) .dead fun H'=>xPend P T N own Q (H.length :: D) σ H' pend:=by
     cases st with
     | busy=>exact hk.elim
     | ready=>exact hk
     | done=>exact hk
     | exhausted=>exact hk
    obtain ⟨hlt,hk3⟩:=zX hk2
    have hbo : blkOf β' H' (H.length + 1) = some (w.heap.size + 1):=by simp only [blkOf,hl,hβ1];rfl
    obtain ⟨s3,X3⟩:=s'.modify (β':=β') (w':=w'.putObj (w.heap.size + 1) (.loop { state:=.exhausted,pending:=pend,fn:=fn,tmps:=tmps,params:=ps,assign:=assign,body:=body,defers:=dfr })) (x':=.dead) hl (fun _ _=>rfl) (.inl rfl) s'.env
     (fun q _ hn=>World.putObj_heap_other (fun e=>hn (by rw [hbo,e]))) (fun b e=>.inl (by rw [hbo];rw [hβ1] at e;exact e)) (fun _=>trivial)
    have Xall:=X.trans (X'.trans X3)
    have hst : yS P E N h' β' (H.length :: D) σ (H'.set (H.length + 1) .dead) { a with defers:=[{ target:=.collected w.heap.size,args:=#[] }] ++ a.defers } (w'.putObj (w.heap.size + 1) (.loop { state:=.exhausted,pending:=pend,fn:=fn,tmps:=tmps,params:=ps,assign:=assign,body:=body,defers:=dfr })):=by
     exact ⟨s3,s.fits.ext Xall,s.size,⟨(s.df.ext Xall).en,.own ((X'.trans X3).rep hmk) (s.df.ext Xall).l⟩⟩
    refine ⟨pend,_,run_endLoop h2 hnb,?_⟩
    cases pend with
    | none=>exact ⟨_,_,_,_,_,hk3,Xall,hst⟩
    | some c=>exact wpIn_mono (XRun.sound ok hk3 E h' β' _ _ hst) fun _ _ _=>Conc.ext Xall
theorem wH.go {i : Nat} {rs : List AV} {K : AV -> List Blk -> Prop} {pend : Option Code} {f : FuncId} {tm : List (Nat × AV)} {ps : Array Tmp} {assign body : Code} {σ0 : St} (ok : zA P T) (hl : lget H i = some (.lp .ready pend f tm ps assign body N)) (hp : xPuts ps.toList rs (stX tm) = some σ0)
  (hb : ∀ t ∈ ps.toList,t < N) (x : ∀ ρ,XRun P T N ρ own assign (xBegin P T own i K ρ) [] σ0 H) : wH P i rs H K:=by
 rw [zr] at hl
 refine ⟨(List.getElem?_eq_some_iff.1 hl).1,fun E h β w b vs s hr hβ=>?_⟩
 have hβ:=hβ _ hl rfl
 obtain ⟨b',dfr,tmps,h1,h2,h3,h4⟩:=s.blk _ _ hl
 rw [hβ] at h1;cases h1
 obtain ⟨hlen,F⟩:=za1 (tmps:=tmps) hp hr (fun t ht=>by rw [h3];exact hb t ht) (fun t r e=>by
  have : ∀ (l : List (Nat × AV)),stX l t = some r -> (t,r) ∈ l:=by
   intro l;induction l with
   | nil=>intro h;cases h
   | cons p l ih =>
     obtain ⟨u,x⟩:=p
     intro h;simp only [stX,yZ,upd] at h
     split at h
     ·rename_i e;cases h;subst e;exact List.mem_cons_self
     ·exact List.mem_cons_of_mem _ (ih h)
  exact h4 t r (this tm e))
 have hzip : ((ps.zip vs.toArray).foldl (fun (tmps : Array Value) (x : Nat × Value)=>tmps.setIfInBounds x.1 x.2) tmps) = ((ps.toList.zip vs).foldl (fun (tmps : Array Value) (x : Nat × Value)=>tmps.setIfInBounds x.1 x.2) tmps):=by
  rw [<- Array.foldl_toList];simp
 refine ⟨f,_,assign,body,run_yield h2 (by simp [hlen]),?_⟩
 refine roundIn_of_wpIn trivial ?_
 have hF : (FW none).inRound b = FW (some b):=rfl
 rw [hF]
 have hsz : ∀ (l : List (Nat × Value)) (tmps : Array Value),(l.foldl (fun (tmps : Array Value) (x : Nat × Value)=>tmps.setIfInBounds x.1 x.2) tmps).size = tmps.size:=by
  intro l;induction l with
  | nil=>intro _;rfl
  | cons p l ih=>intro tmps;simp [ih]
 have st0 : yS P ⟨E.b,E.fr,h⟩ N h β [] σ0 H { tmps:=(ps.zip vs.toArray).foldl (fun (tmps : Array Value) (x : Nat × Value)=>tmps.setIfInBounds x.1 x.2) tmps,defers:=[] } w:=
  ⟨s.en h,fun t r e=>by rw [hzip];exact F t r e,by rw [hzip];exact (hsz _ _).trans h3,⟨fun _ _ e=>e,.nil⟩⟩
 refine wpIn_mono (XRun.sound ok (x (some b)) ⟨E.b,E.fr,h⟩ h β _ w st0) ?_
 rintro e a1 w1 ⟨D1,σ1,H1,h1',β1,q,X1,s1⟩
 have hq : e = .normal /\ ∃ pend' f' tm' ps' x' y' n',lget H1 i = some (.lp .ready pend' f' tm' ps' x' y' n') /\ hset H1 i (.lp .busy pend' f' tm' ps' x' y' n') fun H'=>XRun P T n' (some b) own y' (xRound i K) D1 σ1 H':=by
  unfold xBegin at q;split at q
  ·rename_i hh;exact ⟨rfl,_,_,_,_,_,_,_,hh,q⟩
  ·exact q.elim
 obtain ⟨rfl,pend',f',tm',ps',x',y',n',g1,g2⟩:=hq
 rw [zr] at g1
 have hβ1 : β1 i = β i /\ body = y' /\ N = n':=by
  rcases X1.to _ _ _ hl g1 with hd | ⟨_,_,he,hb1⟩
  ·cases hd
  ·cases he;exact ⟨hb1,rfl,rfl⟩
 obtain ⟨hβ1,rfl,rfl⟩:=hβ1
 rw [hβ] at hβ1
 obtain ⟨b',dfr',tmps',k1,k2,k3,k4⟩:=s1.sr.blk _ _ g1
 rw [hβ1] at k1;cases k1
 obtain ⟨hlt,g3⟩:=zX g2
 refine ⟨_,run_beginRound k2 rfl,?_⟩
 have hbo : blkOf β1 H1 i = some b:=by simp only [blkOf,g1,hβ1];rfl
 have hbs : b < w1.heap.size:=(Array.getElem?_eq_some_iff.1 k2).1
 obtain ⟨s2,X2⟩:=s1.sr.modify (β':=β1) (w':=w1.putObj b (.loop { state:=.busy,pending:=pend',fn:=f',tmps:=tmps',params:=ps',assign:=x',body:=body,defers:=dfr' })) (x':=.lp .busy pend' f' tm' ps' x' body N) g1 (fun _ _=>rfl) (.inr ⟨_,_,rfl,rfl⟩) s1.sr.env
  (fun q _ hn=>World.putObj_heap_other (fun e=>hn (by rw [hbo,e]))) (fun b e=>.inl (by rw [hbo];rw [hβ1] at e;exact e)) (fun X=>⟨b,dfr',tmps',hβ1,World.putObj_heap_same hbs,k3,fun t r e=>let ⟨v,p1,p2⟩:=k4 t r e;⟨v,p1,X.rep p2⟩⟩)
 refine wpIn_mono (XRun.sound ok g3 ⟨E.b,E.fr,h⟩ _ _ _ _ ⟨s2,s1.fits.ext X2,s1.size,s1.df.ext X2⟩) ?_
 rintro e a3 w3 ⟨D3,σ3,H3,h3',β3,q3,X3,s3⟩
 unfold xRound at q3
 split at q3
 case h_2=>exact q3.elim
 rename_i st4 pend4 f4 tm4 ps4 x4 y4 n4 m1
 rw [zr] at m1
 have hg2 : (H1.set i (.lp .busy pend' f' tm' ps' x' body N))[i]? = some (.lp .busy pend' f' tm' ps' x' body N):=by simp [hlt]
 have hβ3 : β3 i = .pointer (some ⟨b,0,none⟩):=by
  rcases X3.to _ _ _ hg2 m1 with hd | ⟨_,_,he,hb1⟩
  ·cases hd
  ·rw [hb1,hβ1]
 obtain ⟨b',dfr4,tmps4,o1,o2,o3,o4⟩:=s3.sr.blk _ _ m1
 rw [hβ3] at o1;cases o1
 have hbo3 : blkOf β3 H3 i = some b:=by simp only [blkOf,m1,hβ3];rfl
 have hbs3 : b < w3.heap.size:=(Array.getElem?_eq_some_iff.1 o2).1
 have Xto:=X1.trans (X2.trans X3)
 have fin : ∀ (jump : Option Code) (st' : LoopState),st' = (if jump.isNone then .ready else .done) -> (hset H3 i (.lp st' jump f4 tm4 ps4 x4 y4 n4) fun H'=>K (.bool jump.isNone) H') ->
   ∃ v w',(Instr.endRound b jump).run P w3 = .ok v w' /\ Ends P E h β H K (.returned v) w':=by
  intro jump st' hst hk
  subst hst
  obtain ⟨_,hk2⟩:=zX hk
  obtain ⟨s4,X4⟩:=s3.sr.modify (β':=β3) (w':=w3.putObj b (.loop { state:=(if jump.isNone then .ready else .done),pending:=jump,fn:=f4,tmps:=tmps4,params:=ps4,assign:=x4,body:=y4,defers:=dfr4 })) (x':=.lp (if jump.isNone then .ready else .done) jump f4 tm4 ps4 x4 y4 n4) m1 (fun _ _=>rfl) (.inr ⟨_,_,rfl,rfl⟩) s3.sr.env
   (fun q _ hn=>World.putObj_heap_other (fun e=>hn (by rw [hbo3,e]))) (fun b e=>.inl (by rw [hbo3];rw [hβ3] at e;exact e)) (fun X=>⟨b,dfr4,tmps4,hβ3,World.putObj_heap_same hbs3,o3,fun t r e=>let ⟨v,p1,p2⟩:=o4 t r e;⟨v,p1,X.rep p2⟩⟩)
  refine ⟨_,_,run_endRound jump o2,.bool jump.isNone,_,_,_,_,rfl,hk2,Xto.trans X4,?_,.bool _⟩
  exact s4.unen
 cases e with
 | normal=>exact fin none .ready rfl q3
 | ret=>exact fin (some .ret) .done rfl q3
 | exit id=>exact fin (some (.exit id)) .done rfl q3
 | _=>exact q3.elim
end
end GA
end
section
namespace GA
open Go Go.RowKit
def gh : List Nat -> List Blk -> (List Blk -> Prop) -> Prop
 | [],H,k=>k H
 | i :: D,H,k=>match lget H i with
   | some (.raw (.deferred (some [])))=>hset H i (.raw (.deferred none)) fun H'=>gh D H' k
   | _=>False
def XIn (T : Tab) (res : List ResultVar) (k : AV -> List Blk -> Prop) : Post:=fun e D σ H =>
 match e with
 | .normal | .ret=>gh D H fun H'=>xRes T σ H' res fun rs=>k (pack rs) H'
 | _=>False
def XFm (P : Program) (T : Tab) (res : List ResultVar) (r0 : AV) : Post:=XIn T res fun r H=>XOut P H r r0
section
variable {P : Program} {T : Tab} {N : Nat} {ρ : Option Nat} {own : List Nat} {E : Env} {h : Nat -> Option Obj} {β : Nat -> Value} {H : List Blk} {w : World} {σ : St} {a : Act}
theorem fT {fn : Func} {k : AV -> List Blk -> Prop} {h0 : Nat -> Option Obj} {β0 : Nat -> Value} {H0 : List Blk} (ok : zA P T) (hen : ∀ b,E.en b = none -> h0 b = none) : ∀ (ds : List Deferred) (D : List Nat) (h : Nat -> Option Obj) (β : Nat -> Value) (H : List Blk) (w : World),Ext h0 β0 H0 h β H -> SR P E h β H w -> Fits P h β H σ a -> DfOk P E h β H D ds ->
   gh D H (fun H'=>xRes T σ H' fn.results.toList fun rs=>k (pack rs) H') -> LeavesInM (FW none) 0 P fn a.tmps (Ends P E h0 β0 H0 k) ds .returning w
 | [],D,h,β,H,w,X,s,F,df,hk=>by
   obtain ⟨_,df⟩:=df
   cases df
   obtain ⟨v,rs,e1,e2,e3⟩:=gV (fn:=fn) s F (wL ok hk)
   exact ⟨v,e1,pack rs,H,h,β,v,rfl,e3,X,s,e2⟩
 | d :: ds,D,h,β,H,w,X,s,F,⟨hen2,df⟩,hk=>by
   cases df with
   | @lost b _ _ hb he nd t =>
     have h4:=s.imm _ _ hb
     have htake:=run_takeDeferred (P:=P) h4
     refine ⟨by simp,.inl ⟨b,_,rfl,htake,?_⟩⟩
     exact fT ok hen ds D _ β H _ (X.hid (hen _ he)) (s.hid hb _) (F.hid hb) (DfOk.hid hb he ⟨hen2,t⟩ nd) hk
   | @own i b D _ h2 t =>
     unfold gh at hk
     split at hk
     case h_2=>exact hk.elim
     rename_i hl
     rw [zr] at hl
     obtain ⟨hlt,hk2⟩:=zX hk
     cases h2 with
     | yld hlv hb =>
       have hb':=hb _ hl rfl
       obtain ⟨b',h3,h4⟩:=s.blk i _ hl
       rw [hb'] at h3;cases h3
       have htake:=run_takeDeferred (P:=P) h4
       have hbo : blkOf β H i = some b:=by simp only [blkOf,hl,hb'];rfl
       obtain ⟨s',X'⟩:=s.modify (β':=β) (w':=w.putObj b (.deferred none)) (x':=.raw (.deferred none)) hl (fun _ _=>rfl) (.inr ⟨_,rfl,rfl⟩) s.env
        (fun q _ hn=>World.putObj_heap_other (fun e=>hn (by rw [hbo,e]))) (fun b0 e=>.inl (by rw [hbo];rw [hb'] at e;exact e))
        (fun _=>⟨b,hb',World.putObj_heap_same (Array.getElem?_eq_some_iff.1 h4).1⟩)
       refine ⟨by simp,.inl ⟨b,_,rfl,htake,?_⟩⟩
       exact fT ok hen ds D h β _ _ (X.trans X') s' (F.ext X') (DfOk.ext ⟨hen2,t⟩ X') hk2
theorem yo.inl {f : FuncId} {fn : Func} {c : Code} {rs : List AV} {res : List ResultVar} {k : AV -> List Blk -> Prop} (ok : zA P T) (own : List Nat) (hf : P.funcs[f]? = some fn) (hb : fn.body = some c) (hn : (fn.name == "runtime.NumGoroutine") = false)
  (hN : fn.ntmps = N) (hr : fn.results = res.toArray) (hl : rs.length <= N) (x : XRun P T N none own c (XIn T res k) [] (argX rs) H) : yo P f rs H k:=by
 refine ⟨⟨fn,hf,hn,by rw [hb];rfl⟩,fun E h β w vs s hrs=>?_⟩
 refine (show CallsIn (FW none) 0 P f vs.toArray w (Ends P ⟨E.b,E.fr,h⟩ h β H k) from ?_).mono fun _ _=>Ends.unen
 refine callsIn_of_wp_marks hf hb trivial ?_ rfl
 have hsz : (vs.toArray ++ Array.replicate (fn.ntmps - vs.toArray.size) undef).size = N:=by simp [hrs.1];omega
 refine wpIn_mono (XRun.sound (own:=own) ok x ⟨E.b,E.fr,h⟩ h β _ w ⟨s.en h,fun t r e=>?_,hsz,⟨fun _ _ e=>e,.nil⟩⟩) ?_
 ·rw [zcU] at e
  obtain ⟨v,h1,h2⟩:=hrs.2 t r e
  refine ⟨v,?_,h2⟩
  rw [Array.getElem?_append_left (by simpa using (List.getElem?_eq_some_iff.1 h1).1)];simpa using h1
 ·rintro e a' w' ⟨D',σ',H',h',β',q,X,s'⟩
  have hq : (e = .normal \/ e = .ret) /\ gh D' H' fun H'=>xRes T σ' H' fn.results.toList fun rs=>k (pack rs) H':=by
   rw [hr]
   unfold XIn at q;split at q
   ·exact ⟨.inl rfl,q⟩
   ·exact ⟨.inr rfl,q⟩
   ·exact q.elim
  obtain ⟨he,q⟩:=hq
  have hL : LeavesInM (FW none) 0 P fn a'.tmps (Ends P ⟨E.b,E.fr,h⟩ h β H k) a'.defers .returning w':=
   fT ok (fun _ e=>e) a'.defers D' h' β' H' w' X s'.sr s'.fits s'.df q
  rcases he with rfl | rfl <;> exact hL
theorem Comp.body' {f : FuncId} {fn : Func} {c : Code} {rs : List AV} {res : List ResultVar} {r0 : AV} (ok : zA P T) (own : List Nat) (hf : P.funcs[f]? = some fn) (hb : fn.body = some c) (hn : (fn.name == "runtime.NumGoroutine") = false)
  (hN : fn.ntmps = N) (hr : fn.results = res.toArray) (hl : rs.length <= N) (hlo : lowL 0 rs = true) (x : XRun P T N none own c (XFm P T res r0) [] (argX rs) []) : Comp P f rs r0:=by
 refine ⟨hlo,?_⟩
 obtain ⟨h1,h2⟩:=yo.inl ok own hf hb hn hN hr hl x
 refine ⟨h1,fun E h β w vs s hrs=>(h2 E h β w vs s hrs).mono ?_⟩
 rintro e w' ⟨r,H',h',β',v,rfl,hk,X,s',hrep⟩
 exact ⟨r0,[],hall h' β' H' w',β',v,rfl,⟨rfl,rfl⟩,⟨fun b o eb=>wE s' (X.imm b o eb),Nat.le_refl _,by simp⟩,s'.all,hk.o E h' β' w' s' v hrep⟩
theorem XRun.monoX (ok : zA P T) {c : Code} {Q Q' : Post} {D : List Nat} (hq : ∀ e D σ H,Q e D σ H -> Q' e D σ H) (x : XRun P T N ρ own c Q D σ H) : AWp P N ρ c Q' D σ H:=(XRun.sound ok x).mono hq
theorem yo.inl0 {f : FuncId} {fn : Func} {c : Code} {rs : List AV} {res : List ResultVar} {k : AV -> List Blk -> Prop} (ok : zA P T) (own : List Nat) (hf : P.funcs[f]? = some fn) (hb : fn.body = some c) (hn : (fn.name == "runtime.NumGoroutine") = false)
  (hN : fn.ntmps = N) (hr : fn.results = res.toArray) (hl : rs.length <= N) (x : AWp P N none c (XIn T res k) [] (argX rs) H) : yo P f rs H k:=by
 refine ⟨⟨fn,hf,hn,by rw [hb];rfl⟩,fun E h β w vs s hrs=>?_⟩
 refine (show CallsIn (FW none) 0 P f vs.toArray w (Ends P ⟨E.b,E.fr,h⟩ h β H k) from ?_).mono fun _ _=>Ends.unen
 refine callsIn_of_wp_marks hf hb trivial ?_ rfl
 have hsz : (vs.toArray ++ Array.replicate (fn.ntmps - vs.toArray.size) undef).size = N:=by simp [hrs.1];omega
 refine wpIn_mono (x ⟨E.b,E.fr,h⟩ h β _ w ⟨s.en h,fun t r e=>?_,hsz,⟨fun _ _ e=>e,.nil⟩⟩) ?_
 ·rw [zcU] at e
  obtain ⟨v,h1,h2⟩:=hrs.2 t r e
  refine ⟨v,?_,h2⟩
  rw [Array.getElem?_append_left (by simpa using (List.getElem?_eq_some_iff.1 h1).1)];simpa using h1
 ·rintro e a' w' ⟨D',σ',H',h',β',q,X,s'⟩
  have hq : (e = .normal \/ e = .ret) /\ gh D' H' fun H'=>xRes T σ' H' fn.results.toList fun rs=>k (pack rs) H':=by
   rw [hr]
   unfold XIn at q;split at q
   ·exact ⟨.inl rfl,q⟩
   ·exact ⟨.inr rfl,q⟩
   ·exact q.elim
  obtain ⟨he,q⟩:=hq
  have hL : LeavesInM (FW none) 0 P fn a'.tmps (Ends P ⟨E.b,E.fr,h⟩ h β H k) a'.defers .returning w':=
   fT ok (fun _ e=>e) a'.defers D' h' β' H' w' X s'.sr s'.fits s'.df q
  rcases he with rfl | rfl <;> exact hL
theorem Comp.body {f : FuncId} {fn : Func} {c : Code} {rs : List AV} {res : List ResultVar} {r0 : AV} (ok : zA P T) (own : List Nat) (hf : P.funcs[f]? = some fn) (hb : fn.body = some c) (hn : (fn.name == "runtime.NumGoroutine") = false)
  (hN : fn.ntmps = N) (hr : fn.results = res.toArray) (hl : rs.length <= N) (hlo : lowL 0 rs = true) (x : XRun P T N none own c (XFn P T res r0) [] (argX rs) []) : Comp P f rs r0:=by
 refine ⟨hlo,?_⟩
 obtain ⟨h1,h2⟩:=yo.inl0 (k:=fun r H=>XOut P H r r0) ok own hf hb hn hN hr hl (XRun.monoX ok (fun e D σ H q=>by
  unfold XFn at q
  split at q
  ·exact q
  ·exact q
  ·exact q.elim) x)
 refine ⟨h1,fun E h β w vs s hrs=>(h2 E h β w vs s hrs).mono ?_⟩
 rintro e w' ⟨r,H',h',β',v,rfl,hk,X,s',hrep⟩
 exact ⟨r0,[],hall h' β' H' w',β',v,rfl,⟨rfl,rfl⟩,⟨fun b o eb=>wE s' (X.imm b o eb),Nat.le_refl _,by simp⟩,s'.all,hk.o E h' β' w' s' v hrep⟩
theorem za.inl {f : FuncId} {fn : Func} {c : Code} {rs : List AV} {res : List ResultVar} {k : AV -> List Blk -> Prop} (ok : zA P T) (own : List Nat) (hf : P.funcs[f]? = some fn) (hb : fn.body = some c) (hn : (fn.name == "runtime.NumGoroutine") = false)
  (hN : fn.ntmps = N) (hr : fn.results = res.toArray) (hl : rs.length <= N) (x : XRun P T N none own c (XIn T res k) [] (argX rs) H) : za P f rs H k:=
 ⟨.inl ok own hf hb hn hN hr hl x⟩
theorem Walk.nilgr {c : Code} {Q : Post} {D : List Nat} (t : Nat) (te : TypeId) (ht : σ t = some (.sl true [])) (x : Walk P N ρ c Q D (updX σ t (.gr H.length 0)) (H ++ [.grow te true []])) : Walk P N ρ c Q D σ H:=by
 constructor
 intro E h β a w s
 obtain ⟨s',X⟩:=s.sr.push (w':=w) s.sr.env (fun _ _=>rfl) (.slice none 0 0) (.grow te true []) (by intro b hb;simp [anchor] at hb) (fun _=>.inl ⟨rfl,rfl,by simp [upb]⟩)
 refine wpIn_mono (x.o E h _ a w ⟨s',fun u r e=>?_,s.size,s.df.ext X⟩) fun _ _ _=>Conc.ext X
 rw [yZ] at e;unfold upd at e
 split at e
 ·rename_i hu;subst hu;cases e
  obtain ⟨v,h1,h2⟩:=s.fits u _ ht
  cases h2
  refine ⟨_,h1,.gr rfl (.push rfl) fun t' nl els e=>?_⟩
  rw [List.getElem?_append_right (Nat.le_refl _)] at e;simp at e;obtain ⟨_,_,rfl⟩:=e
  exact ⟨Nat.le_refl _,fun _=>by simp [upb]⟩
 ·obtain ⟨v,h1,h2⟩:=s.fits u r e
  exact ⟨v,h1,X.rep h2⟩
end
end GA
end
section
namespace GA
open Go Go.RowKit
section
variable {P : Program} {T : Tab} {N : Nat} {ρ : Option Nat} {own : List Nat} {E : Env} {h : Nat -> Option Obj} {β : Nat -> Value} {H : List Blk} {w : World} {σ σ' : St} {a : Act}
def wX (σ σ' : St) (l : List Operand) : Prop:=∀ t,Operand.tmp t ∈ l -> ∀ r,σ t = some r -> σ' t = some r
theorem wX.ev {l : List Operand} (k : wX σ σ' l) {x : Operand} (hx : x ∈ l) {r : AV} (e : ev σ x = some r) : ev σ' x = some r:=by
 cases x with
 | tmp t=>exact k t hx r e
 | _=>exact e
theorem wX.evL {l : List Operand} (k : wX σ σ' l) : ∀ {xs : List Operand} {rs : List AV},(∀ x ∈ xs,x ∈ l) -> evL σ xs = some rs -> evL σ' xs = some rs
 | [],_,_,e=>e
 | x :: xs,rs,hx,e=>by
   unfold GA.evL at e ⊢
   split at e <;> cases e
   rename_i h1 h2
   rw [k.ev (hx x (by simp)) h1,k.evL (fun y hy=>hx y (by simp [hy])) h2]
theorem wX.evP {l : List Operand} (k : wX σ σ' l) : ∀ {xs : List (Nat × Operand)} {rs : List (Nat × AV)},(∀ x ∈ xs.map (·.2),x ∈ l) -> evP σ xs = some rs -> evP σ' xs = some rs
 | [],_,_,e=>e
 | (i,x) :: xs,rs,hx,e=>by
   unfold GA.evP at e ⊢
   split at e <;> cases e
   rename_i h1 h2
   rw [k.ev (hx x (by simp)) h1,k.evP (fun y hy=>hx y (by simp at hy ⊢;exact .inr hy)) h2]
theorem wX.evO {l : List Operand} (k : wX σ σ' l) {x : Option Operand} {r : Option AV} (hx : ∀ y,x = some y -> y ∈ l) (e : evO σ x = some r) : evO σ' x = some r:=by
 cases x with
 | none=>exact e
 | some y =>
   simp only [GA.evO] at e ⊢
   cases h1 : GA.ev σ y with
   | none=>rw [h1] at e;cases e
   | some z=>rw [h1] at e;rw [k.ev (hx y rfl) h1];exact e
theorem wX.b {l : List Operand} (k : wX σ σ' l) {x : Operand} (hx : x ∈ l) {K : AV -> Prop} (e : bnd (GA.ev σ x) K) : bnd (GA.ev σ' x) K:=by
 obtain ⟨r,h1,h2⟩:=zd e;rw [k.ev hx h1];exact h2
theorem AOp_look {op : Op} {d : Option Nat} {K : AV -> List Blk -> Prop} (k : wX σ σ' op.operands.toList) (x : AOp P own d σ H K op) : AOp P own d σ' H K op:=by
 cases op with
 | move a=>exact k.b (by simp [Op.operands]) x
 | assign a=>exact k.b (by simp [Op.operands]) x
 | pick c a b =>
   refine zm (k.b (x:=c) (by simp [Op.operands]) x) fun r _ h=>?_
   split at h
   ·exact ⟨fun e=>k.b (by simp [Op.operands]) (h.1 e),fun e=>k.b (by simp [Op.operands]) (h.2 e)⟩
   ·exact h
 | alloc t=>exact x
 | box t a=>exact k.b (by simp [Op.operands]) x
 | build t ps=>obtain ⟨r,h1,h2⟩:=zd x;show bnd _ _;rw [k.evP (by simp [Op.operands]) h1];exact h2
 | buildSlice t n ps=>obtain ⟨r,h1,h2⟩:=zd x;show bnd _ _;rw [k.evP (by simp [Op.operands]) h1];exact h2
 | load t a=>exact k.b (by simp [Op.operands]) x
 | store t a v=>exact zm (k.b (x:=a) (by simp [Op.operands]) x) fun r _ h=>k.b (by simp [Op.operands]) h
 | nilCheck a=>exact k.b (by simp [Op.operands]) x
 | binOp op t a b y=>exact zm (k.b (x:=a) (by simp [Op.operands]) x) fun r _ h=>k.b (by simp [Op.operands]) h
 | unOp op t a=>exact k.b (by simp [Op.operands]) x
 | convert s d a=>exact k.b (by simp [Op.operands]) x
 | makeFunc fn first caps =>
   cases fn with
   | func f =>
     rcases x with ⟨h0,h⟩ | ⟨h0,h⟩
     ·obtain ⟨r,h1,h2⟩:=zd h
      refine .inl ⟨h0,?_⟩
      rw [k.evL (by simp [Op.operands];exact fun _ h=>.inr h) h1];exact h2
     ·obtain ⟨r,h1,h2⟩:=zd h
      refine .inr ⟨h0,?_⟩
      rw [k.evL (by simp [Op.operands];exact fun _ h=>.inl h) h1];exact h2
   | _=>exact x
 | makeSlice t a b=>exact zm (k.b (x:=a) (by simp [Op.operands]) x) fun r _ h=>k.b (by simp [Op.operands]) h
 | slice t a lo hi mx =>
   refine zm (k.b (x:=a) (by simp [Op.operands]) x) fun r _ h=>?_
   obtain ⟨l1,g1,h⟩:=zd h
   obtain ⟨l2,g2,h⟩:=zd h
   obtain ⟨l3,g3,h⟩:=zd h
   rw [k.evO (by rintro y rfl;simp [Op.operands]) g1,zo,k.evO (by rintro y rfl;simp [Op.operands]) g2,zo,k.evO (by rintro y rfl;simp [Op.operands]) g3,zo]
   exact h
 | fieldAddr t a f=>exact k.b (by simp [Op.operands]) x
 | field t a f=>exact k.b (by simp [Op.operands]) x
 | indexAddr t a b=>exact zm (k.b (x:=a) (by simp [Op.operands]) x) fun r _ h=>k.b (by simp [Op.operands]) h
 | index t a b =>
   rcases x with x | ⟨c,e,x⟩
   ·exact .inl (zm (k.b (x:=a) (by simp [Op.operands]) x) fun r _ h=>k.b (by simp [Op.operands]) h)
   ·exact .inr ⟨c,e,k.b (by simp [Op.operands]) x⟩
 | extract a i=>exact k.b (by simp [Op.operands]) x
 | makeMap t r=>exact x
 | lookup t a b ok=>exact zm (k.b (x:=a) (by simp [Op.operands]) x) fun r _ h=>k.b (by simp [Op.operands]) h
 | mapUpdate t m a b=>exact zm (k.b (x:=m) (by simp [Op.operands]) x) fun r _ h=>zm (k.b (x:=a) (by simp [Op.operands]) h) fun r _ h=>k.b (by simp [Op.operands]) h
 | insert t m a b=>exact zm (k.b (x:=m) (by simp [Op.operands]) x) fun r _ h=>zm (k.b (x:=a) (by simp [Op.operands]) h) fun r _ h=>k.b (by simp [Op.operands]) h
 | call c =>
   obtain ⟨callee,args,argTypes⟩:=c
   change jM P σ H _ K at x
   change jM P σ' H _ K
   unfold jM at x ⊢
   cases callee with
   | value f =>
     refine zm (k.b (x:=f) (by simp [Op.operands,Call.operands]) x) fun fv _ h=>?_
     obtain ⟨rs,h1,h2⟩:=zd h
     rw [k.evL (by simp [Op.operands,Call.operands];exact fun _ h=>.inr h) h1];exact h2
   | builtin b =>
     obtain ⟨rs,h1,h2⟩:=zd x
     simp only
     rw [k.evL (by simp [Op.operands,Call.operands]) h1];exact h2
   | invoke r m=>exact x
 | _=>exact x
end
end GA
end
section
namespace GA
open Go Go.RowKit
def dep (o : Oper) (j : Nat) : Bool:=o.after.toList.any fun e=>Region.binds .any e && Nat.beq e.on j
def zQ (eff : List Nat) (listed : Array Bool) : List Bool:=eff.map fun j=>listed.getD j false
def setF (eff : List Nat) (i : Nat) (fl : List Bool) : List Bool:=List.zipWith (fun j b=>b || Nat.beq j i) eff fl
def opAt (ops : List Oper) (j : Nat) (f : Oper -> Bool) : Bool:=match lget ops j with | some o=>f o | none=>true
def compat (ops : List Oper) (eff : List Nat) (i : Nat) (fl : List Bool) : Bool:=
 (eff.zip fl).all fun (j,b) =>
  (opAt ops i fun o=>!dep o j || b) && (!Nat.beq j i || !b) && (opAt ops j fun o=>!dep o i || !b) &&
  (!b ||(eff.zip fl).all fun (j',b')=>opAt ops j fun o=>!dep o j' || b')
structure zg (r : AV) (H : List Blk) (r0 : AV) (H0 : List Blk) : Prop where
 r : r = r0
 h : H = H0
section
variable (P : Program) (T : Tab) (N : Nat) (own : List Nat) (ops : List Oper) (eff : List Nat) (HS : List Bool -> List Blk)
def Chk (i : Nat) (o : Oper) (σ : St) (r : AV) (fl : List Bool) : Prop:=
 xGate ops σ o.guard (fun σ=>XOp P T own o.dst σ (HS fl) (fun r' H'=>zg r' H' r (HS (setF eff i fl))) o.op) (fun _=>zg (.tup []) (HS fl) r (HS (setF eff i fl)))
def vq : Nat -> List Oper -> List AV -> St -> Prop
 | _,[],[],_=>True
 | i,o :: l,r :: R,σ=>(∀ fl,fl.length = eff.length -> compat ops eff i fl = true -> Chk P T own ops eff HS i o σ r fl) /\ vq (i + 1) l R (putX N σ o.dst r)
 | _,_,_,_=>False
end
def zaw (N : Nat) : List Oper -> List AV -> St -> St
 | o :: l,r :: R,σ=>zaw N l R (putX N σ o.dst r)
 | _,_,σ=>σ
section
variable {P : Program} {T : Tab} {N : Nat} {ρ : Option Nat} {own : List Nat} {E : Env} {h : Nat -> Option Obj} {β : Nat -> Value} {H : List Blk} {w : World} {σ σ' : St} {a : Act} {ops : List Oper} {eff : List Nat} {HS : List Bool -> List Blk}
theorem vq.get : ∀ {l : List Oper} {R : List AV} {i : Nat} {σ : St},vq P T N own ops eff HS i l R σ -> l.length = R.length /\ ∀ (j : Nat) o,l[j]? = some o -> ∃ r,R[j]? = some r /\
   ∀ fl,fl.length = eff.length -> compat ops eff (i + j) fl = true -> Chk P T own ops eff HS (i + j) o (zaw N (l.take j) (R.take j) σ) r fl
 | [],[],_,_,_=>⟨rfl,by simp⟩
 | o :: l,r :: R,i,σ,h=>by
   obtain ⟨h1,h2⟩:=h
   obtain ⟨h3,h4⟩:=vq.get h2
   refine ⟨by simp [h3],fun j o' e=>?_⟩
   cases j with
   | zero=>simp at e;subst e;exact ⟨r,rfl,h1⟩
   | succ j =>
     obtain ⟨r',e1,e2⟩:=h4 j o' (by simpa using e)
     refine ⟨r',by simpa using e1,fun fl hf hc=>?_⟩
     have:=e2 fl hf (by rwa [show i + 1 + j = i + (j + 1) by omega])
     rw [show i + 1 + j = i + (j + 1) by omega] at this
     exact this
 | [],_ :: _,_,_,h=>h.elim
 | _ :: _,[],_,_,h=>h.elim
theorem putX_get {N : Nat} {σ : St} {d : Option Nat} {r x : AV} {t : Nat} (e : putX N σ d r t = some x) : (d = some t /\ t < N /\ x = r) \/ ((d ≠ some t \/ ¬ t < N) /\ σ t = some x):=by
 rw [zcM] at e
 cases d with
 | none=>exact .inr ⟨.inl (by simp),e⟩
 | some d =>
   simp only [putO] at e
   split at e
   ·rename_i hd;unfold upd at e;split at e
    ·rename_i ht;subst ht;cases e;exact .inl ⟨rfl,hd,rfl⟩
    ·rename_i ht;exact .inr ⟨.inl (by intro hh;cases hh;exact ht rfl),e⟩
   ·rename_i hd
    by_cases ht : d = t
    ·subst ht;exact .inr ⟨.inr hd,e⟩
    ·exact .inr ⟨.inl (by intro hh;cases hh;exact ht rfl),e⟩
theorem gB {N : Nat} : ∀ {l : List Oper} {R : List AV} {σ : St} {t : Nat} {x : AV},l.length = R.length -> zaw N l R σ t = some x ->
  (∃ (j : Nat) (o : Oper),l[j]? = some o /\ o.dst = some t /\ t < N /\ R[j]? = some x /\ ∀ (k : Nat) o',l[k]? = some o' -> j < k -> o'.dst ≠ some t) \/
  ((∀ (k : Nat) o',l[k]? = some o' -> o'.dst ≠ some t \/ ¬ t < N) /\ σ t = some x)
 | [],R,σ,t,x,hl,e=>by
   right;refine ⟨by simp,?_⟩
   cases R <;> exact e
 | o :: l,[],_,_,_,hl,_=>by simp at hl
 | o :: l,r :: R,σ,t,x,hl,e=>by
   rcases gB (l:=l) (R:=R) (by simpa using hl) e with ⟨j,o',h1,h2,h3,h4,h5⟩ | ⟨h1,h2⟩
   ·left
    refine ⟨j + 1,o',by simpa using h1,h2,h3,by simpa using h4,fun k o'' hk hj=>?_⟩
    cases k with
    | zero=>omega
    | succ k=>exact h5 k o'' (by simpa using hk) (by omega)
   ·rcases putX_get h2 with ⟨g1,g2,g3⟩ | ⟨g1,g2⟩
    ·left
     refine ⟨0,o,rfl,g1,g2,by simp [g3],fun k o' hk hj=>?_⟩
     cases k with
     | zero=>omega
     | succ k =>
       rcases h1 k o' (by simpa using hk) with h | h
       ·exact h
       ·exact absurd g2 h
    ·right
     refine ⟨fun k o' hk=>?_,g2⟩
     cases k with
     | zero=>simp at hk;subst hk;exact g1
     | succ k=>exact h1 k o' (by simpa using hk)
theorem zds {ops : Array Oper} : ∀ (fuel k : Nat) (listed : Array Bool),listed.size = ops.size -> (∀ j,listed.getD j true = false ↔ k <= j /\ j < ops.size) -> k + fuel = ops.size -> Region.lexFrom .any ops fuel k listed = true ->
  ∀ i o,k <= i -> ops[i]? = some o -> (∀ e ∈ o.after,Region.binds .any e = true -> e.on < i) /\ ∀ (j : Nat) oj,i < j -> ops[j]? = some oj -> (∀ e ∈ oj.after,Region.binds .any e = true -> e.on ≠ i) -> o.apart ops oj = true
 | 0,k,listed,_,_,hk,_,i,o,hi,ho=>by have:=(Array.getElem?_eq_some_iff.1 ho).1;omega
 | fuel + 1,k,listed,hs,hl,hk,hB,i,o,hi,ho=>by
   simp only [Region.lexFrom,Bool.and_eq_true] at hB
   obtain ⟨⟨hr,hf⟩,hB'⟩:=hB
   rcases Nat.lt_or_eq_of_le hi with hlt | rfl
   ·refine zds fuel (k + 1) (listed.setIfInBounds k true) (by simpa using hs) (fun j=>?_) (by omega) hB' i o (by omega) ho
    by_cases hjk : k = j
    ·subst hjk
     have : k < listed.size:=by omega
     simp [this];omega
    ·rw [getD_set_ne true hjk,hl j];omega
   ·have hr' : k ∈ Region.ready .any ops listed:=by simpa using hr
    obtain ⟨_,o',ho',hall⟩:=mem_ready.1 hr'
    rw [ho] at ho';cases ho'
    refine ⟨fun e he hb=>?_,fun j oj hj hoj hno=>Region.free_spec ho hf j oj hoj (by omega) ((hl j).2 ⟨by omega,(Array.getElem?_eq_some_iff.1 hoj).1⟩) hno⟩
    have h1:=hall e he hb
    rcases Nat.lt_or_ge e.on k with h | h
    ·exact h
    ·exfalso
     rcases Nat.lt_or_ge e.on ops.size with h' | h'
     ·have h2:=(hl e.on).2 ⟨h,h'⟩
      simp at h1 h2
      rcases Nat.lt_or_ge e.on listed.size with h3 | h3
      ·simp [h3] at h1 h2;rw [h2] at h1;cases h1
      ·simp [Array.getElem?_eq_none h3] at h1
     ·have h3 : listed.size <= e.on:=by omega
      simp [Array.getElem?_eq_none h3] at h1
end
end GA
end
section
namespace GA
open Go Go.RowKit
section
variable {P : Program} {T : Tab} {N : Nat} {ρ : Option Nat} {own : List Nat} {E : Env} {h : Nat -> Option Obj} {β : Nat -> Value} {H : List Blk} {w : World} {σ σ' : St} {a : Act} {ops : List Oper} {eff : List Nat} {HS : List Bool -> List Blk}
def isL (listed : Array Bool) (j : Nat) : Prop:=listed.getD j false = true
def Closed (ops : List Oper) (listed : Array Bool) : Prop:=∀ (j : Nat) o,ops[j]? = some o -> isL listed j -> ∀ e ∈ o.after,Region.binds .any e = true -> isL listed e.on
structure DInv (P : Program) (E : Env) (N : Nat) (ops : List Oper) (eff : List Nat) (HS : List Bool -> List Blk) (R : List AV) (σ : St) (a0 : Act) (h0 : Nat -> Option Obj) (β0 : Nat -> Value) (H0 : List Blk) (listed : Array Bool) (a : Act) (w : World) : Prop where
 size : listed.size = ops.length
 closed : Closed ops listed
 st : ∃ h β,Ext h0 β0 H0 h β (HS (zQ eff listed)) /\ SR P E h β (HS (zQ eff listed)) w /\
  (∀ t r,σ t = some r -> (∀ (j : Nat) o,ops[j]? = some o -> isL listed j -> o.dst ≠ some t \/ ¬ t < N) -> ∃ v,a.tmps[t]? = some v /\ Rep P h β (HS (zQ eff listed)) r v) /\
  (∀ (j : Nat) o d r,ops[j]? = some o -> isL listed j -> o.dst = some d -> d < N -> R[j]? = some r -> (∀ (k : Nat) ok,ops[k]? = some ok -> isL listed k -> j < k -> ok.dst ≠ some d) -> ∃ v,a.tmps[d]? = some v /\ Rep P h β (HS (zQ eff listed)) r v)
 keeps : Keeps a0 a
theorem zdq {o : Oper} {j : Nat} : dep o j = true ↔ ∃ e ∈ o.after,Region.binds .any e = true /\ e.on = j:=by
 unfold dep;rw [List.any_eq_true]
 constructor
 ·rintro ⟨e,h1,h2⟩
  simp only [Bool.and_eq_true] at h2
  exact ⟨e,by simpa using h1,h2.1,Nat.eq_of_beq_eq_true h2.2⟩
 ·rintro ⟨e,h1,h2,h3⟩
  exact ⟨e,by simpa using h1,by subst h3;simp [h2]⟩
theorem gD {listed : Array Bool} {p : Nat × Bool} : ∀ {eff : List Nat},p ∈ eff.zip (zQ eff listed) -> p.2 = listed.getD p.1 false
 | [],h=>by simp at h
 | j :: eff,h=>by
   simp only [zQ,List.map_cons,List.zip_cons_cons] at h
   rcases List.mem_cons.1 h with h | h
   ·subst h;rfl
   ·exact gD h
theorem gF {j : Nat} {f : Oper -> Bool} (h : ∀ o,ops[j]? = some o -> f o = true) : opAt ops j f = true:=by
 unfold opAt;rw [zr];split
 ·rename_i e;exact h _ e
 ·rfl
theorem zdm {listed : Array Bool} {i : Nat} (hc : Closed ops listed) (hi : ¬ isL listed i) (hr : ∀ o,ops[i]? = some o -> ∀ e ∈ o.after,Region.binds .any e = true -> isL listed e.on) : compat ops eff i (zQ eff listed) = true:=by
 unfold compat
 rw [List.all_eq_true]
 rintro ⟨j,b⟩ hp
 have hb:=gD hp
 simp only at hb;subst hb
 simp only [Bool.and_eq_true]
 refine ⟨⟨⟨gF fun o ho=>?_,?_⟩,gF fun o ho=>?_⟩,?_⟩
 ·cases hd : dep o j with
  | false=>rfl
  | true=>obtain ⟨e,h1,h2,h3⟩:=zdq.1 hd;have:=hr o ho e h1 h2;rw [h3] at this;simpa [isL] using this
 ·cases hd : Nat.beq j i with
  | false=>rfl
  | true=>have:=Nat.eq_of_beq_eq_true hd;subst this;simpa [isL] using hi
 ·cases hd : dep o i with
  | false=>rfl
  | true =>
    obtain ⟨e,h1,h2,h3⟩:=zdq.1 hd
    cases hl : listed.getD j false with
    | false=>rfl
    | true=>exact absurd (h3 ▸ hc j o ho hl e h1 h2) hi
 ·cases hl : listed.getD j false with
  | false=>rfl
  | true =>
    simp only [Bool.not_true,Bool.false_or]
    rw [List.all_eq_true]
    rintro ⟨j',b'⟩ hp'
    have hb':=gD hp'
    simp only at hb';subst hb'
    refine gF fun o ho=>?_
    cases hd : dep o j' with
    | false=>rfl
    | true=>obtain ⟨e,h1,h2,h3⟩:=zdq.1 hd;have:=hc j o ho hl e h1 h2;rw [h3] at this;simpa [isL] using this
theorem vC {listed : Array Bool} {i j : Nat} (hi : i < listed.size) : isL (listed.setIfInBounds i true) j ↔ j = i \/ isL listed j:=by
 unfold isL
 by_cases h : i = j
 ·subst h;simp [hi]
 ·rw [getD_set_ne false h];simp [Ne.symm h]
theorem wf {listed : Array Bool} {i : Nat} (hi : i < listed.size) : ∀ (eff : List Nat),zQ eff (listed.setIfInBounds i true) = setF eff i (zQ eff listed)
 | []=>rfl
 | j :: eff=>by
   simp only [zQ,setF,List.map_cons,List.zipWith_cons_cons]
   congr 1
   ·by_cases h : i = j
    ·subst h;simp [hi]
    ·rw [getD_set_ne false h]
     cases hb : Nat.beq j i with
     | true=>exact absurd (Nat.eq_of_beq_eq_true hb).symm h
     | false=>simp
   ·exact wf hi eff
theorem DInv.step {R : List AV} {a0 : Act} {h0 : Nat -> Option Obj} {β0 : Nat -> Value} {H0 : List Blk} {Q : Exit -> Act -> World -> Prop} (ok : zA P T) (hN : a0.tmps.size = N)
  (hlex : ∀ (i : Nat) o,ops[i]? = some o -> ∀ (j : Nat) oj,i < j -> ops[j]? = some oj -> (∀ e ∈ oj.after,Region.binds .any e = true -> e.on ≠ i) -> o.apart ops.toArray oj = true)
  (hchk : vq P T N own ops eff HS 0 ops R σ) {listed : Array Bool} {a : Act} {w : World} (I : DInv P E N ops eff HS R σ a0 h0 β0 H0 listed a w) {i : Nat} (hi : i ∈ Region.ready .any ops.toArray listed) :
  wpOpIn (FW ρ) 0 P ops.toArray Q i (DInv P E N ops eff HS R σ a0 h0 β0 H0 (listed.setIfInBounds i true)) a w:=by
 obtain ⟨hnot,o,ho,hall⟩:=mem_ready.1 hi
 have ho' : ops[i]? = some o:=by simpa using ho
 have hilt : i < ops.length:=(List.getElem?_eq_some_iff.1 ho').1
 have hils : i < listed.size:=by rw [I.size];exact hilt
 have hni : ¬ isL listed i:=by unfold isL;simp [hils] at hnot ⊢;exact hnot
 obtain ⟨hRl,hget⟩:=hchk.get
 obtain ⟨r,hr,hc⟩:=hget i o ho'
 rw [Nat.zero_add] at hc
 have hC:=hc (zQ eff listed) (by simp [zQ]) (zdm I.closed hni fun o' h e he hb=>by rw [ho'] at h;cases h;exact hall e he hb)
 obtain ⟨h,β,X,s,K1,K2⟩:=I.st
 -- edges
 have edge : ∀ (j : Nat) oj,ops[j]? = some oj -> i < j -> isL listed j -> o.apart ops.toArray oj = true:=fun j oj hj hij hl =>
  hlex i o ho' j oj hij hj fun e he hb heq=>hni (heq ▸ I.closed j oj hj hl e he hb)
 have edge' : ∀ (j : Nat) oj,ops[j]? = some oj -> j < i -> ¬ isL listed j -> oj.apart ops.toArray o = true:=fun j oj hj hij hl =>
  hlex j oj hj i o hij ho' fun e he hb heq=>hl (heq ▸ hall e he hb)
 -- what is looked at
 let σ₁:=zaw N (ops.take i) (R.take i) σ
 let σ₂ : St:=fun t=>if t ∈ o.looksAt ops.toArray then σ₁ t else none
 have hF : Fits P h β (HS (zQ eff listed)) σ₂ a:=by
  intro t x ex
  simp only [σ₂] at ex
  split at ex
  ·rename_i hlook
   rcases gB (by simp [hRl]) ex with ⟨j,oj,h1,h2,h3,h4,h5⟩ | ⟨h1,h2⟩
   ·have hji : j < i:=by have:=(List.getElem?_eq_some_iff.1 h1).1;simp at this;omega
    have h1' : ops[j]? = some oj:=by rw [List.getElem?_take,if_pos hji] at h1;exact h1
    have h4' : R[j]? = some x:=by rw [List.getElem?_take,if_pos hji] at h4;exact h4
    have hjl : isL listed j:=by
     by_cases hl : isL listed j
     ·exact hl
     ·exact absurd hlook ((Oper.apart_spec (edge' j oj h1' hji hl)).1 t h2)
    refine K2 j oj t x h1' hjl h2 h3 h4' fun k ok hk hkl hjk=>?_
    rcases Nat.lt_trichotomy k i with hki | rfl | hki
    ·exact h5 k ok (by rw [List.getElem?_take,if_pos hki];exact hk) hjk
    ·exact absurd hkl hni
    ·intro hd;exact (Oper.apart_spec (edge k ok hk hki hkl)).2.2 t hd hlook
   ·refine K1 t x h2 fun j oj hj hjl=>?_
    rcases Nat.lt_trichotomy j i with hji | rfl | hji
    ·exact h1 j oj (by rw [List.getElem?_take,if_pos hji];exact hj)
    ·exact absurd hjl hni
    ·left;intro hd;exact (Oper.apart_spec (edge j oj hj hji hjl)).2.2 t hd hlook
  ·cases ex
 have hk2 : wX σ₁ σ₂ o.op.operands.toList:=by
  intro t ht x ex
  have : t ∈ o.looksAt ops.toArray:=by
   unfold Oper.looksAt;rw [List.mem_append];left;rw [List.mem_filterMap];exact ⟨.tmp t,ht,rfl⟩
  simp only [σ₂];rw [if_pos this];exact ex
 have hg1:=zaA hC
 have hg2 : gate ops σ₂ o.guard (XOp P T own o.dst σ₁ (HS (zQ eff listed)) (fun r' H'=>zg r' H' r (HS (setF eff i (zQ eff listed)))) o.op) (zg (.tup []) (HS (zQ eff listed)) r (HS (setF eff i (zQ eff listed)))):=by
  unfold gate at hg1 ⊢
  cases hgd : o.guard with
  | none=>rw [hgd] at hg1;exact hg1
  | some p =>
    obtain ⟨j,want⟩:=p
    rw [hgd] at hg1
    obtain ⟨d,e1,e2⟩:=zd hg1
    obtain ⟨x,e3,e4⟩:=zd e2
    have : d ∈ o.looksAt ops.toArray:=by
     unfold Oper.looksAt;rw [List.mem_append];right;rw [hgd];simp only [List.getElem?_toArray,e1];simp
    have e5 : σ₂ d = some x:=by simp only [σ₂];rw [if_pos this];exact e3
    simp only [e1,zo,e5];exact e4
 -- the next state
 have next : ∀ (v : Value) h' β' w',Ext h β (HS (zQ eff listed)) h' β' (HS (setF eff i (zQ eff listed))) -> SR P E h' β' (HS (setF eff i (zQ eff listed))) w' -> Rep P h' β' (HS (setF eff i (zQ eff listed))) r v ->
   DInv P E N ops eff HS R σ a0 h0 β0 H0 (listed.setIfInBounds i true) (a.put o.dst v) w':=by
  intro v h' β' w' X' s' hrep
  have hsz : a.tmps.size = N:=I.keeps.size.trans hN
  refine ⟨by simpa using I.size,fun j oj hj hl e he hb=>?_,⟨h',β',?_,?_,?_,?_⟩,⟨(vu _ _ _).trans I.keeps.size,(v9 _ _ _).trans I.keeps.defers⟩⟩
  ·rw [vC hils] at hl ⊢
   rcases hl with rfl | hl
   ·rw [ho'] at hj;cases hj;exact .inr (hall e he hb)
   ·exact .inr (I.closed j oj hj hl e he hb)
  ·rw [wf hils];exact X.trans X'
  ·rw [wf hils];exact s'
  ·rw [wf hils]
   intro t x ex hno
   obtain ⟨u,g1,g2⟩:=K1 t x ex fun j oj hj hl=>hno j oj hj ((vC hils).2 (.inr hl))
   refine ⟨u,?_,X'.rep g2⟩
   have hd:=hno i o ho' ((vC hils).2 (.inl rfl))
   cases hdst : o.dst with
   | none=>exact g1
   | some d =>
     simp only [Act.put]
     by_cases hdt : d = t
     ·subst hdt
      rcases hd with hd | hd
      ·exact absurd hdst hd
      ·rw [Array.setIfInBounds_eq_of_size_le (by omega)];exact g1
     ·rw [Array.getElem?_setIfInBounds_ne hdt];exact g1
  ·rw [wf hils]
   intro j oj d x hj hl hd hdN hx hlast
   rw [vC hils] at hl
   by_cases hji : j = i
   ·subst hji
    rw [ho'] at hj;cases hj
    rw [hr] at hx;cases hx
    exact ⟨v,by rw [hd];simp [Act.put,hsz,hdN],hrep⟩
   ·have hl : isL listed j:=hl.resolve_left hji
    obtain ⟨u,g1,g2⟩:=K2 j oj d x hj hl hd hdN hx fun k ok hk hkl hjk=>hlast k ok hk ((vC hils).2 (.inr hkl)) hjk
    refine ⟨u,?_,X'.rep g2⟩
    have hne : o.dst ≠ some d:=by
     intro hod
     rcases Nat.lt_trichotomy j i with hlt | heq | hlt
     ·exact hlast i o ho' ((vC hils).2 (.inl rfl)) hlt hod
     ·exact hji heq
     ·exact (Oper.apart_spec (edge j oj hj hlt hl)).2.1 d hod hd
    cases hdst : o.dst with
    | none=>exact g1
    | some d' =>
      simp only [Act.put]
      rw [Array.getElem?_setIfInBounds_ne (fun e=>hne (by rw [hdst,e]))];exact g1
 unfold wpOpIn
 simp only [ho]
 rcases ft hF hg2 with ⟨hw,hA⟩ | ⟨hw,hB⟩
 ·rw [if_pos hw]
  refine AOp.sound (AOp_look hk2 (hA.sound ok)) s hF ?_
  intro r' H' h' β' w' v hk' X' s' hrep
  obtain ⟨e1,e2⟩:=hk'
  subst e1;subst e2
  exact next v h' β' w' X' s' hrep
 ·rw [if_neg (by rw [hw];simp)]
  refine ⟨fun _ _=>trivial,?_⟩
  obtain ⟨e1,e2⟩:=hB
  refine next undef h β w ?_ ?_ ?_
  ·rw [<- e2];exact Ext.refl _ _ _
  ·rw [<- e2];exact s
  ·rw [<- e1];exact zbW
theorem unl_zero {listed : Array Bool} (h : (List.range listed.size).countP (fun j=>!listed.getD j false) = 0) {j : Nat} (hj : j < listed.size) : isL listed j:=by
 rw [List.countP_eq_zero] at h
 have:=h j (by simpa using hj)
 simpa [isL] using this
theorem unl_set {listed : Array Bool} {i : Nat} (hi : i < listed.size) (hn : ¬ isL listed i) :
  (List.range (listed.setIfInBounds i true).size).countP (fun j=>!(listed.setIfInBounds i true).getD j false) + 1 = (List.range listed.size).countP (fun j=>!listed.getD j false):=by
 have e : ∀ n,n <= listed.size -> (List.range n).countP (fun j=>!(listed.setIfInBounds i true).getD j false) + (if i < n then 1 else 0) = (List.range n).countP (fun j=>!listed.getD j false):=by
  intro n
  induction n with
  | zero=>intro _;simp
  | succ n ih =>
    intro hn'
    have ih:=ih (by omega)
    rw [List.range_succ,List.countP_append,List.countP_append,<- ih]
    by_cases h : i = n
    ·subst h
     have h1 : listed.getD i false = false:=by unfold isL at hn;simpa using hn
     have h2 : (listed.setIfInBounds i true).getD i false = true:=by simp [hi]
     simp only [List.countP_cons,List.countP_nil,h1,h2]
     simp
    ·rw [show List.countP (fun j=>!(listed.setIfInBounds i true).getD j false) [n] = List.countP (fun j=>!listed.getD j false) [n] by simp only [List.countP_cons,List.countP_nil,getD_set_ne false h]]
     split <;> split <;> omega
 have:=e listed.size (Nat.le_refl _)
 rw [if_pos hi] at this
 simpa using this
theorem DInv.any {R : List AV} {a0 : Act} {h0 : Nat -> Option Obj} {β0 : Nat -> Value} {H0 : List Blk} {Q : Exit -> Act -> World -> Prop} (ok : zA P T) (hN : a0.tmps.size = N) (hs : Region.lexB .any ops.toArray = true)
  (hchk : vq P T N own ops eff HS 0 ops R σ) (hQ : ∀ listed a w,DInv P E N ops eff HS R σ a0 h0 β0 H0 listed a w -> (∀ j,j < ops.length -> isL listed j) -> Q .normal a w) :
  ∀ (fuel : Nat) (listed : Array Bool) (a : Act) (w : World),(List.range listed.size).countP (fun j=>!listed.getD j false) = fuel -> DInv P E N ops eff HS R σ a0 h0 β0 H0 listed a w -> wpAnyIn (FW ρ) 0 P .any ops.toArray Q fuel listed a w:=by
 simp only [Region.lexB,Bool.and_eq_true] at hs
 have hspec:=zds (ops:=ops.toArray) ops.toArray.size 0 (Array.replicate ops.toArray.size false) (by simp) (fun j=>by
  simp only [Array.getD_eq_getD_getElem?,Array.getElem?_replicate]
  split <;> simp_all) (by simp) hs.2
 have hlex : ∀ (i : Nat) o,ops[i]? = some o -> ∀ (j : Nat) oj,i < j -> ops[j]? = some oj -> (∀ e ∈ oj.after,Region.binds .any e = true -> e.on ≠ i) -> o.apart ops.toArray oj = true:=
  fun i o ho j oj hij hj hno=>(hspec i o (Nat.zero_le _) (by simpa using ho)).2 j oj hij (by simpa using hj) hno
 -- who is ready when nobody is
 have hready : ∀ listed a w,DInv P E N ops eff HS R σ a0 h0 β0 H0 listed a w -> Region.ready .any ops.toArray listed = [] -> ∀ j,j < ops.length -> isL listed j:=by
  intro listed a w I hr j
  induction j using Nat.strongRecOn with
  | _ j ih =>
    intro hj
    by_cases hl : isL listed j
    ·exact hl
    ·exfalso
     have : j ∈ Region.ready .any ops.toArray listed:=by
      rw [mem_ready]
      refine ⟨?_,ops[j],by simp [hj],fun e he hb=>?_⟩
      ·have hjs : j < listed.size:=by rw [I.size];exact hj
       unfold isL at hl;simp [hjs] at hl ⊢;exact hl
      ·have h1:=(hspec j ops[j] (Nat.zero_le _) (by simp [hj])).1 e he hb
       exact ih e.on h1 (by omega)
     rw [hr] at this;cases this
 intro fuel
 induction fuel with
 | zero =>
   intro listed a w hc I
   have hall : ∀ j,j < ops.length -> isL listed j:=fun j hj=>unl_zero hc (by rw [I.size];exact hj)
   refine ⟨?_,hQ listed a w I hall⟩
   cases hr : Region.ready .any ops.toArray listed with
   | nil=>rfl
   | cons j l =>
     have : j ∈ Region.ready .any ops.toArray listed:=by rw [hr];simp
     obtain ⟨h1,o,h2,_⟩:=mem_ready.1 this
     have hj : j < ops.length:=by have:=(Array.getElem?_eq_some_iff.1 h2).1;simpa using this
     have hjs : j < listed.size:=by rw [I.size];exact hj
     have:=hall j hj
     unfold isL at this;simp [hjs] at h1 this;rw [h1] at this;cases this
 | succ fuel ih =>
   intro listed a w hc I
   refine ⟨fun hr=>hQ listed a w I (hready listed a w I hr),fun i hi=>?_⟩
   obtain ⟨h1,o,h2,_⟩:=mem_ready.1 hi
   have hj : i < ops.length:=by have:=(Array.getElem?_eq_some_iff.1 h2).1;simpa using this
   have hjs : i < listed.size:=by rw [I.size];exact hj
   have hn : ¬ isL listed i:=by unfold isL;simp [hjs] at h1 ⊢;exact h1
   refine wpOpIn_mono (fun a' w' I'=>ih _ a' w' ?_ I') (DInv.step ok hN hlex hchk I hi)
   have:=unl_set hjs hn
   omega
theorem Walk.draw {id : Nat} {Q : Post} {D : List Nat} (ok : zA P T) (hm : P.follows .mixedOrders = true) (own : List Nat) (eff : List Nat) (HS : List Bool -> List Blk) (R : List AV) (hs : Region.lexB .any ops.toArray = true)
  (hH : HS (eff.map fun _=>false) = H) (hchk : vq P T N own ops eff HS 0 ops R σ) (hk : Q .normal D (zaw N ops R σ) (HS (eff.map fun j=>Nat.blt j ops.length))) : Walk P N ρ (.region id ops.toArray true) Q D σ H:=by
 constructor
 intro E h β a w s
 have hfl0 : zQ eff (Array.replicate ops.toArray.size false) = eff.map fun _=>false:=by
  unfold zQ;apply List.map_congr_left;intro j _
  simp only [Array.getD_eq_getD_getElem?,Array.getElem?_replicate];split <;> rfl
 have hnl : ∀ j,¬ isL (Array.replicate ops.toArray.size false) j:=by
  intro j;unfold isL
  simp only [Array.getD_eq_getD_getElem?,Array.getElem?_replicate];split <;> simp
 have I0 : DInv P E N ops eff HS R σ a h β H (Array.replicate ops.toArray.size false) a { w with drawn:=w.drawn + 1 }:=by
  refine ⟨by simp,fun j o _ hl=>absurd hl (hnl j),⟨h,β,?_,?_,fun t r e _=>?_,fun j o d r _ hl=>absurd hl (hnl j)⟩,⟨rfl,rfl⟩⟩
  ·rw [hfl0,hH];exact Ext.refl _ _ _
  ·rw [hfl0,hH];exact s.sr.drew
  ·rw [hfl0,hH];exact s.fits t r e
 have hcnt : (List.range (Array.replicate ops.toArray.size false).size).countP (fun j=>!(Array.replicate ops.toArray.size false).getD j false) = ops.toArray.size:=by
  rw [List.countP_eq_length.2]
  ·simp
  ·intro j _;have:=hnl j;unfold isL at this;simpa using this
 refine wpIn_region_any hm (DInv.any ok s.size hs hchk (fun listed a' w' I hall=>?_) _ _ a _ hcnt I0)
 obtain ⟨h',β',X,s',K1,K2⟩:=I.st
 have hfl : zQ eff listed = eff.map fun j=>Nat.blt j ops.length:=by
  unfold zQ;apply List.map_congr_left;intro j _
  rcases Nat.lt_or_ge j ops.length with hj | hj
  ·have:=hall j hj;unfold isL at this;rw [this];symm;rw [Nat.blt_eq];exact hj
  ·have h1 : listed.getD j false = false:=by simp [Array.getElem?_eq_none (show listed.size <= j by rw [I.size];exact hj)]
   rw [h1];cases hb : Nat.blt j ops.length with
   | false=>rfl
   | true=>rw [Nat.blt_eq] at hb;omega
 rw [hfl] at X s' K1 K2
 refine ⟨D,_,_,h',β',hk,X,s',fun t x ex=>?_,I.keeps.size.trans s.size,by rw [I.keeps.defers];exact s.df.ext X⟩
 rcases gB hchk.get.1 ex with ⟨j,oj,h1,h2,h3,h4,h5⟩ | ⟨h1,h2⟩
 ·exact K2 j oj t x h1 (hall j (List.getElem?_eq_some_iff.1 h1).1) h2 h3 h4 fun k ok hk _ hjk=>h5 k ok hk hjk
 ·exact K1 t x h2 fun j o hj _=>h1 j o hj
end
end GA
end
section
namespace GA
open Go Go.RowKit
structure XAnd (A B : Prop) : Prop where
 l : A
 r : B
def allF : Nat -> List (List Bool)
 | 0=>[[]]
 | n + 1=>(allF n).flatMap fun l=>[l ++ [false],l ++ [true]]
def zbU : List Bool -> List Bool -> Bool
 | [],[]=>true
 | true :: l,true :: m=>zbU l m
 | false :: l,false :: m=>zbU l m
 | _,_=>false
theorem fV : ∀ {l m : List Bool},zbU l m = true -> l = m
 | [],[],_=>rfl
 | true :: l,true :: m,h=>by rw [fV (l:=l) (m:=m) h]
 | false :: l,false :: m,h=>by rw [fV (l:=l) (m:=m) h]
 | [],_ :: _,h=>by cases h
 | _ :: _,[],h=>by simp [zbU] at h
 | true :: _,false :: _,h=>by cases h
 | false :: _,true :: _,h=>by cases h
theorem zd4 : ∀ {n : Nat} {fl : List Bool},fl.length = n -> fl ∈ allF n
 | 0,fl,h=>by simp [allF,List.eq_nil_of_length_eq_zero h]
 | n + 1,fl,h=>by
   have hne : fl ≠ []:=by intro e;rw [e] at h;simp at h
   have h1 : fl.dropLast ++ [fl.getLast hne] = fl:=List.dropLast_concat_getLast hne
   have h2:=zd4 (n:=n) (fl:=fl.dropLast) (by simp [h])
   simp only [allF,List.mem_flatMap]
   refine ⟨fl.dropLast,h2,?_⟩
   cases hb : fl.getLast hne with
   | true=>rw [hb] at h1;rw [h1];simp
   | false=>rw [hb] at h1;rw [h1];simp
section
variable (P : Program) (T : Tab) (N : Nat) (own : List Nat) (ops : List Oper) (eff : List Nat) (HS : List Bool -> List Blk)
def textF (i : Nat) : List Bool:=eff.map fun j=>Nat.blt j i
def ChkA : Nat -> List Oper -> List AV -> St -> Prop
 | _,[],[],_=>True
 | i,o :: l,r :: R,σ=>XAnd (Chk P T own ops eff HS i o σ r (textF eff i)) (ChkA (i + 1) l R (putX N σ o.dst r))
 | _,_,_,_=>False
def ChkF (fl : List Bool) : Nat -> List Oper -> List AV -> St -> Prop
 | i,o :: l,r :: R,σ=>match compat ops eff i fl && !zbU fl (textF eff i) with
   | true=>XAnd (Chk P T own ops eff HS i o σ r fl) (ChkF fl (i + 1) l R (putX N σ o.dst r))
   | false=>ChkF fl (i + 1) l R (putX N σ o.dst r)
 | _,_,_,_=>True
def ChkB (R : List AV) (σ : St) : List (List Bool) -> Prop
 | []=>True
 | fl :: fls=>XAnd (ChkF P T N own ops eff HS fl 0 ops R σ) (ChkB R σ fls)
end
section
variable {P : Program} {T : Tab} {N : Nat} {own : List Nat} {ops : List Oper} {eff : List Nat} {HS : List Bool -> List Blk}
theorem ChkF.all : ∀ {l : List Oper} {R : List AV} {i : Nat} {σ : St},ChkA P T N own ops eff HS i l R σ -> (∀ fl,fl.length = eff.length -> ChkF P T N own ops eff HS fl i l R σ) -> vq P T N own ops eff HS i l R σ
 | [],[],_,_,_,_=>trivial
 | o :: l,r :: R,i,σ,hA,hB=>by
   refine ⟨fun fl hf hc=>?_,ChkF.all hA.r fun fl hf=>?_⟩
   ·cases hs : zbU fl (textF eff i) with
    | true=>rw [fV hs];exact hA.l
    | false =>
      have:=hB fl hf
      simp only [ChkF,hc,hs] at this
      exact this.l
   ·have:=hB fl hf
    simp only [ChkF] at this
    split at this
    ·exact this.r
    ·exact this
 | [],_ :: _,_,_,h,_=>h.elim
 | _ :: _,[],_,_,h,_=>h.elim
theorem ChkB.get {R : List AV} {σ : St} : ∀ {fls : List (List Bool)},ChkB P T N own ops eff HS R σ fls -> ∀ fl ∈ fls,ChkF P T N own ops eff HS fl 0 ops R σ
 | fl :: fls,h,f,hf=>by
   rcases List.mem_cons.1 hf with rfl | hf
   ·exact h.l
   ·exact ChkB.get h.r f hf
def hsC (l : List (List Blk)) (fl : List Bool) : List Blk:=match lget l (fl.countP id) with | some H=>H | none=>[]
def bin : List Bool -> Nat
 | []=>0
 | true :: l=>2 * bin l + 1
 | false :: l=>2 * bin l
theorem Walk.drawX {ρ : Option Nat} {id : Nat} {Q : Post} {D : List Nat} {σ : St} {H : List Blk} (ok : zA P T) (hm : P.follows .mixedOrders = true) (own : List Nat) (eff : List Nat) (HS : List Bool -> List Blk) (R : List AV) (hs : Region.lexB .any ops.toArray = true)
  (hH : HS (eff.map fun _=>false) = H) (hA : ChkA P T N own ops eff HS 0 ops R σ) (hB : ChkB P T N own ops eff HS R σ (allF eff.length)) (hk : Q .normal D (zaw N ops R σ) (HS (eff.map fun j=>Nat.blt j ops.length))) : Walk P N ρ (.region id ops.toArray true) Q D σ H:=
 .draw ok hm own eff HS R hs hH (ChkF.all hA fun fl hf=>hB.get fl (zd4 hf)) hk
theorem ChkA.go {i : Nat} {l : List Oper} {R : List AV} {σ : St} (h : ChkA P T N own ops eff HS i l R σ) : ChkA P T N own ops eff HS i l R σ:=h
theorem ChkF.go {fl : List Bool} {i : Nat} {l : List Oper} {R : List AV} {σ : St} (h : ChkF P T N own ops eff HS fl i l R σ) : ChkF P T N own ops eff HS fl i l R σ:=h
theorem ChkB.go {R : List AV} {σ : St} {fls : List (List Bool)} (h : ChkB P T N own ops eff HS R σ fls) : ChkB P T N own ops eff HS R σ fls:=h
theorem Chk.go {i : Nat} {o : Oper} {σ : St} {r : AV} {fl : List Bool} (h : Chk P T own ops eff HS i o σ r fl) : Chk P T own ops eff HS i o σ r fl:=h
end
end GA
end
section
namespace GA
open Go Go.RowKit Go.Proofs
theorem zk : Tryz.prog.follows .mixedOrders = true:=by kernel_rfl
theorem gJ {α : Type} {p : α -> Bool} {xs : List α} {d : α} (h : ∀ j,j < xs.length -> p (xs.getD j d) = false) : xs.findIdx? p = none:=by
 rw [List.findIdx?_eq_none_iff];intro x hx
 obtain ⟨j,hj,rfl⟩:=List.mem_iff_getElem.1 hx
 have:=h j hj;rwa [List.getD_eq_getElem?_getD,List.getElem?_eq_getElem hj] at this
theorem gR {α : Type} {p : α -> Bool} {xs : List α} {d : α} {i : Nat} (hi : i < xs.length) (hp : p (xs.getD i d) = true) (h : ∀ j,j < i -> p (xs.getD j d) = false) : xs.findIdx? p = some i:=by
 rw [List.findIdx?_eq_some_iff_getElem]
 refine ⟨hi,by rwa [List.getD_eq_getElem?_getD,List.getElem?_eq_getElem hi] at hp,fun j hj=>?_⟩
 have:=h j hj;rw [List.getD_eq_getElem?_getD,List.getElem?_eq_getElem (by omega)] at this;simpa using this
theorem zu {α : Type} {xs : List α} {d : α} {i : Nat} (hi : i < xs.length) : xs.getD i d ∈ xs:=by
 rw [List.getD_eq_getElem?_getD,List.getElem?_eq_getElem hi];exact List.getElem_mem hi
def idxR {α : Type} (p : α -> Bool) (xs : List α) : Int:=match xs.findIdx? p with | some i=>i | none=>-1
theorem zaN {α : Type} {p : α -> Bool} {xs : List α} : (0 <= idxR p xs) ↔ xs.any p = true:=by
 unfold idxR
 cases h : xs.findIdx? p with
 | none=>rw [List.findIdx?_eq_none_iff] at h;simp;intro x hx;simpa using h x hx
 | some i =>
   rw [List.findIdx?_eq_some_iff_getElem] at h;obtain ⟨h1,h2,_⟩:=h
   simp;exact ⟨_,List.getElem_mem h1,h2⟩
def offB (n lo hi : Int) : Bool:=decide (n < lo) || decide (hi < n)
def inB (n lo hi : Int) : Bool:=decide (lo <= n) && decide (n <= hi)
theorem fx (n lo hi : Int) : Comp Tryz.prog 82 [.int .i64 n,.int .i64 lo,.int .i64 hi] (.bool (offB n lo hi)):=by
 refine Comp.body (T:=tab) (res:=[.tmp 6]) zb [] Tryz.func82 rfl (by kernel_rfl) Tryz.ntmps82 rfl (by simp only [List.length_cons,List.length_nil];decide) (by rfl) ?_;conv=>whnf
 repeat' first|((first|(with_reducible apply XBr.tt)|(with_reducible apply XBr.ff));conv=>whnf)|((with_reducible apply XBr.dec) <;> (intro h;first|(exfalso;omega)|((try simp only [List.length_map] at h);first|(exfalso;omega)|(conv=>whnf))))|fail
 all_goals (refine XOut.bool ?_;rw [Bool.eq_iff_iff];simp [offB];try omega)
theorem in_c (n lo hi : Int) : Comp Tryz.prog 32 [.int .i64 n,.int .i64 lo,.int .i64 hi] (.bool (inB n lo hi)):=by
 refine Comp.body (T:=tab) (res:=[.tmp 6]) zb [] Tryz.func32 rfl (by kernel_rfl) Tryz.ntmps32 rfl (by simp only [List.length_cons,List.length_nil];decide) (by rfl) ?_;conv=>whnf
 repeat' first|((first|(with_reducible apply XBr.tt)|(with_reducible apply XBr.ff));conv=>whnf)|((with_reducible apply XBr.dec) <;> (intro h;first|(exfalso;omega)|((try simp only [List.length_map] at h);first|(exfalso;omega)|(conv=>whnf))))|fail
 all_goals (refine XOut.bool ?_;rw [Bool.eq_iff_iff];simp [inB];try omega)
theorem idxf_int (nl : Bool) (xs : List Int) (g : FuncId) (caps : List AV) (p : Int -> Bool) (hl : lowL 0 caps = true) (hx : xs.length <= 100000) (hp : ∀ x ∈ xs,Comp Tryz.prog g (.int .i64 x :: caps) (.bool (p x))) :
  Comp Tryz.prog 120 [.sl nl (ints xs),.fn g caps] (.int .i64 (idxR p xs)):=by
 refine Comp.body (T:=tab) (res:=[.tmp 4]) zb [] Tryz.func120 rfl (by kernel_rfl) Tryz.ntmps120 rfl (by simp only [List.length_cons,List.length_nil];decide) (by simp only [lowL,AV.low,lowI,hl];rfl) ?_;conv=>whnf
 refine Walk.loop zb [] (fun i : Nat=>i <= xs.length /\ ∀ j,j < i -> p (xs.getD j default) = false) (fun i=>[(0,.sl nl (ints xs)),(1,.fn g caps),(7,.int .i64 xs.length),(8,.int .i64 i)]) (fun _=>[]) (fun i=>xs.length - i) 0 ⟨by omega,by omega⟩ rfl ⟨rfl,rfl,by simp only [List.length_map];rfl,rfl,trivial⟩ ?_
 rintro i ⟨h2,h3⟩
 conv=>whnf
 repeat' first|((with_reducible apply XBr.dec) <;> (intro h;first|(exfalso;omega)|((try simp only [List.length_map] at h);first|(exfalso;omega)|(conv=>whnf))))|(((with_reducible refine XIx.nat ?_ ?_ ?_);omega;(intro _;rfl));conv=>whnf)|fail
 ·refine za.ret (hp _ (zu (i:=i) (d:=default) (by omega))) ?_
  conv=>whnf
  refine XBr.mk' ?_ ?_ <;> intro h4 <;> (conv=>whnf)
  ·refine XOut.int ?_
   simp only [idxR,gR (d:=default) (i:=i) (by omega) h4 h3]
  ·skip
   repeat' first|((with_reducible refine XInt.i64 (by omega) (by omega) ?_);conv=>whnf)|fail
   refine zh.go (i + 1) ⟨by omega,fun j hj=>?_⟩ (by omega) rfl ⟨rfl,rfl,rfl,rfl,trivial⟩
   by_cases hji : j = i
   ·subst hji;exact h4
   ·exact h3 j (by omega)
 ·refine XOut.int ?_
  simp only [idxR,gJ (d:=default) fun j hj=>h3 j (by omega)]
theorem zcb (nl : Bool) (xs : List Int) (g : FuncId) (caps : List AV) (p : Int -> Bool) (hl : lowL 0 caps = true) (hx : xs.length <= 100000) (hp : ∀ x ∈ xs,Comp Tryz.prog g (.int .i64 x :: caps) (.bool (p x))) :
  Comp Tryz.prog 110 [.sl nl (ints xs),.fn g caps] (.bool (xs.any p)):=by
 refine Comp.body (T:=tab) (res:=[.tmp 4]) zb [] Tryz.func110 rfl (by kernel_rfl) Tryz.ntmps110 rfl (by simp only [List.length_cons,List.length_nil];decide) (by simp only [lowL,AV.low,lowI,hl];rfl) ?_;conv=>whnf
 refine za.ret (idxf_int nl xs g caps p hl hx hp) ?_
 conv=>whnf
 refine XOut.bool ?_
 rw [Bool.eq_iff_iff,decide_eq_true_eq];exact zaN
theorem zeS (x : Int) (g : FuncId) (caps : List AV) (p : Int -> Bool) (hl : lowL 0 caps = true) (hp : Comp Tryz.prog g (.int .i64 x :: caps) (.bool (p x))) :
  Comp Tryz.prog 111 [.int .i64 x,.pim [.fn g caps]] (.bool (!p x)):=by
 refine Comp.body (T:=tab) (res:=[.tmp 3]) zb [] Tryz.func111 rfl (by kernel_rfl) Tryz.ntmps111 rfl (by simp only [List.length_cons,List.length_nil];decide) (by simp only [lowL,AV.low,hl];rfl) ?_;conv=>whnf
 refine za.ret hp ?_
 conv=>whnf
 exact XOut.bool rfl
theorem wg (nl : Bool) (xs : List Int) (g : FuncId) (caps : List AV) (p : Int -> Bool) (hl : lowL 0 caps = true) (hx : xs.length <= 100000) (hp : ∀ x ∈ xs,Comp Tryz.prog g (.int .i64 x :: caps) (.bool (p x))) :
  Comp Tryz.prog 88 [.sl nl (ints xs),.fn g caps] (.bool (xs.all p)):=by
 refine Comp.body (T:=tab) (res:=[.tmp 4]) zb [] Tryz.func88 rfl (by kernel_rfl) Tryz.ntmps88 rfl (by simp only [List.length_cons,List.length_nil];decide) (by simp only [lowL,AV.low,lowI,hl];rfl) ?_;conv=>whnf
 refine za.ret (zcb nl xs 111 [.pim [.fn g caps]] (fun x=>!p x) (by simp only [lowL,AV.low,hl];rfl) hx fun x hm=>zeS x g caps p hl (hp x hm)) ?_
 conv=>whnf
 refine XOut.bool ?_
 rw [List.not_any_eq_all_not];simp
theorem zah (x : Int) : Comp Tryz.prog 108 [.int .i64 x] (.bool (inB x 1 40)):=by
 refine Comp.body (T:=tab) (res:=[.tmp 2]) zb [] Tryz.func108 rfl (by kernel_rfl) Tryz.ntmps108 rfl (by simp only [List.length_cons,List.length_nil];decide) (by rfl) ?_;conv=>whnf
 refine za.ret (in_c _ _ _) ?_
 conv=>whnf
 exact XOut.bool rfl
def z7 (xs : List Int) (g : Int) : Int:=if 100 < xs.length then 2 else if xs.all (inB · 1 40) && inB g 1 40 then 0 else 3
theorem zb4 (nl : Bool) (xs : List Int) (g : Int) (hx : xs.length <= 100000) : Comp Tryz.prog 81 [.sl nl (ints xs),.int .i64 g] (.int .i64 (z7 xs g)):=by
 refine Comp.body (T:=tab) (res:=[.tmp 4]) zb [] Tryz.func81 rfl (by kernel_rfl) Tryz.ntmps81 rfl (by simp only [List.length_cons,List.length_nil];decide) (by simp only [lowL,AV.low,lowI];rfl) ?_;conv=>whnf
 repeat' first|((with_reducible apply XBr.dec) <;> (intro h;first|(exfalso;omega)|((try simp only [List.length_map] at h);first|(exfalso;omega)|(conv=>whnf))))|fail
 ·refine XOut.int ?_
  unfold z7;rw [if_pos (by omega)]
 refine za.ret (wg nl xs 108 [] (inB · 1 40) rfl hx fun x _=>zah x) ?_
 conv=>whnf
 refine XBr.not (XBr.mk' ?_ ?_) <;> intro h4 <;> (conv=>whnf)
 ·skip
  repeat' first|((with_reducible apply XBr.ff);conv=>whnf)|fail
  refine za.ret (zah _) ?_
  conv=>whnf
  repeat' first|((with_reducible apply XBr.ff);conv=>whnf)|(with_reducible apply XBr.not)|((with_reducible apply XBr.mk') <;> (intro h;conv=>whnf))|fail
  ·refine XOut.int ?_
   unfold z7;rw [if_neg (by omega)];simp [h4,h]
  ·refine XOut.int ?_
   unfold z7;rw [if_neg (by omega)];simp [h4,h]
 ·skip
  repeat' first|((with_reducible apply XBr.tt);conv=>whnf)|fail
  refine XOut.int ?_
  unfold z7;rw [if_neg (by omega)];simp [h4]
end GA
end
section
namespace GA
open Go Go.RowKit Go.Proofs
theorem y5 {α : Type} {xs ys : List α} {d : α} (hl : xs.length = ys.length) (h : ∀ j,j < xs.length -> xs.getD j d = ys.getD j d) : xs = ys:=by
 apply List.ext_getElem hl
 intro j h1 h2
 have:=h j h1
 rwa [List.getD_eq_getElem?_getD,List.getD_eq_getElem?_getD,List.getElem?_eq_getElem h1,List.getElem?_eq_getElem h2] at this
theorem zbx (n1 n2 : Bool) (xs ys : List Int) (hx : xs.length <= 100000) : Comp Tryz.prog 83 [.sl n1 (ints xs),.sl n2 (ints ys)] (.bool (xs == ys)):=by
 refine Comp.body (T:=tab) (res:=[.tmp 4]) zb [] Tryz.func83 rfl (by kernel_rfl) Tryz.ntmps83 rfl (by simp only [List.length_cons,List.length_nil];decide) (by simp only [lowL,AV.low,lowI];rfl) ?_;conv=>whnf
 repeat' first|((with_reducible apply XBr.bne) <;> (intro h;first|(exfalso;omega)|(conv=>whnf)))|fail
 ·refine XOut.bool ?_
  rw [Bool.eq_iff_iff];simp;intro e;subst e;simp at h
 have hl : (xs.length : Int) = ys.length:=by simpa using h
 refine Walk.loop zb [] (fun i : Nat=>i <= xs.length /\ ∀ j,j < i -> xs.getD j default = ys.getD j default) (fun i=>[(0,.sl n1 (ints xs)),(1,.sl n2 (ints ys)),(12,.int .i64 xs.length),(13,.int .i64 i)]) (fun _=>[]) (fun i=>xs.length - i) 0 ⟨by omega,by omega⟩ rfl ⟨rfl,rfl,by simp only [List.length_map];rfl,rfl,trivial⟩ ?_
 rintro i ⟨h2,h3⟩
 conv=>whnf
 repeat' first|((with_reducible apply XBr.dec) <;> (intro h;first|(exfalso;omega)|((try simp only [List.length_map] at h);first|(exfalso;omega)|(conv=>whnf))))|fail
 ·apply Walk.drawX zb zk [] [] (fun _=>[]) [_,_,_,_,_,_,_,_,_] (by kernel_rfl) rfl
  ·skip
   repeat' first|(((with_reducible refine XIx.nat ?_ ?_ ?_);omega;(intro _;rfl));conv=>whnf)|(with_reducible apply XAnd.mk)|((first|(with_reducible apply Chk.go)|(with_reducible apply ChkA.go));conv=>whnf)|(exact zg.mk rfl rfl)|(with_reducible exact trivial)|fail
  ·skip
   repeat' first|(with_reducible apply XAnd.mk)|((first|(with_reducible apply ChkF.go)|(with_reducible apply ChkB.go));conv=>whnf)|(with_reducible exact trivial)|fail
  ·conv=>whnf
   repeat' first|((with_reducible apply XBr.bne) <;> (intro h;first|(exfalso;omega)|(conv=>whnf)))|((with_reducible refine XInt.i64 (by omega) (by omega) ?_);conv=>whnf)|fail
   ·refine XOut.bool ?_
    rw [Bool.eq_iff_iff];simp
    intro e;subst e;exact h rfl
   ·refine zh.go (i + 1) ⟨by omega,fun j hj=>?_⟩ (by omega) rfl ⟨rfl,rfl,rfl,rfl,trivial⟩
    by_cases hji : j = i
    ·subst hji;exact h
    ·exact h3 j (by omega)
 ·refine XOut.bool ?_
  have:=y5 (by omega) fun j hj=>h3 j (by omega)
  rw [this];simp
theorem v0 (n1 n2 : Bool) (xs ys : List Int) (hx : xs.length <= 100000) : Comp Tryz.prog 23 [.sl n1 (ints xs),.sl n2 (ints ys)] (.bool (xs == ys)):=by
 refine Comp.body (T:=tab) (res:=[.tmp 4]) zb [] Tryz.func23 rfl (by kernel_rfl) Tryz.ntmps23 rfl (by simp only [List.length_cons,List.length_nil];decide) (by simp only [lowL,AV.low,lowI];rfl) ?_;conv=>whnf
 refine za.ret (zbx n1 n2 xs ys hx) ?_
 conv=>whnf
 exact XOut.bool rfl
def vn (xs : List Int) (c : Int) : Int:=if 100 < xs.length then 2 else if xs.any (offB · 1 40) then 3 else if offB c 1 40 then 3 else 0
theorem any_getD {α : Type} {p : α -> Bool} {xs : List α} {d : α} {i : Nat} (hi : i < xs.length) (h : p (xs.getD i d) = true) : xs.any p = true:=by
 rw [List.any_eq_true];exact ⟨_,zu hi,h⟩
theorem zdg {α : Type} {p : α -> Bool} {xs : List α} {d : α} (h : ∀ j,j < xs.length -> p (xs.getD j d) = false) : xs.any p = false:=by
 rw [List.any_eq_false];intro x hx
 obtain ⟨j,hj,rfl⟩:=List.mem_iff_getElem.1 hx
 have:=h j hj;rw [List.getD_eq_getElem?_getD,List.getElem?_eq_getElem hj] at this;simpa using this
theorem sizes_c (nl : Bool) (xs : List Int) (c : Int) : Comp Tryz.prog 21 [.sl nl (ints xs),.int .i64 c] (.int .i64 (vn xs c)):=by
 refine Comp.body (T:=tab) (res:=[.tmp 4]) zb [] Tryz.func21 rfl (by kernel_rfl) Tryz.ntmps21 rfl (by simp only [List.length_cons,List.length_nil];decide) (by simp only [lowL,AV.low,lowI];rfl) ?_;conv=>whnf
 repeat' first|((with_reducible apply XBr.dec) <;> (intro h;first|(exfalso;omega)|((try simp only [List.length_map] at h);first|(exfalso;omega)|(conv=>whnf))))|fail
 ·refine XOut.int ?_
  unfold vn;rw [if_pos (by omega)]
 refine Walk.loop zb [] (fun i : Nat=>i <= xs.length /\ ∀ j,j < i -> offB (xs.getD j default) 1 40 = false) (fun i=>[(0,.sl nl (ints xs)),(1,.int .i64 c),(5,.int .i64 i)]) (fun _=>[]) (fun i=>xs.length - i) 0 ⟨by omega,by omega⟩ rfl ⟨rfl,rfl,rfl,trivial⟩ ?_
 rintro i ⟨h2,h3⟩
 conv=>whnf
 repeat' first|((with_reducible apply XBr.dec) <;> (intro h;first|(exfalso;omega)|((try simp only [List.length_map] at h);first|(exfalso;omega)|(conv=>whnf))))|(((with_reducible refine XIx.nat ?_ ?_ ?_);omega;(intro _;rfl));conv=>whnf)|fail
 ·refine za.ret (fx _ _ _) ?_
  conv=>whnf
  refine XBr.mk' ?_ ?_ <;> intro h4 <;> (conv=>whnf)
  ·refine XOut.int ?_
   unfold vn;rw [if_neg (by omega),if_pos (any_getD (by omega) h4)]
  ·skip
   repeat' first|((with_reducible refine XInt.i64 (by omega) (by omega) ?_);conv=>whnf)|fail
   refine zh.go (i + 1) ⟨by omega,fun j hj=>?_⟩ (by omega) rfl ⟨rfl,rfl,rfl,trivial⟩
   by_cases hji : j = i
   ·subst hji;exact h4
   ·exact h3 j (by omega)
 ·have hn:=zdg (p:=(offB · 1 40)) fun j hj=>h3 j (by omega)
  refine za.ret (fx _ _ _) ?_
  conv=>whnf
  refine XBr.mk' ?_ ?_ <;> intro h4 <;> (conv=>whnf)
  ·refine XOut.int ?_
   unfold vn;rw [if_neg (by omega),hn];simp [h4]
  ·refine XOut.int ?_
   unfold vn;rw [if_neg (by omega),hn];simp [h4]
theorem vK (nl : Bool) (xs : List Int) (hx : xs.length <= 100000) : Comp Tryz.prog 19 [.sl nl (ints xs)] (.sl false (ints xs)):=by
 refine Comp.body (T:=tab) (res:=[.tmp 2]) zb [] Tryz.func19 rfl (by kernel_rfl) Tryz.ntmps19 rfl (by simp only [List.length_cons,List.length_nil];decide) (by simp only [lowL,AV.low,lowI];rfl) ?_;conv=>whnf
 refine zj.mk ⟨by omega,by simp,by unfold Room;simp;omega⟩ ?_
 conv=>whnf
 refine zj.mk (zz xs) ?_
 conv=>whnf
 refine zj.mk ⟨rfl,rfl,by unfold Room;simp;omega⟩ ?_
 conv=>whnf
 exact ⟨Froz.grow rfl (by simp) (lowI xs)⟩
def yV (xs : List Int) (g : Int) : List Int:=xs.filter fun x=>decide (g <= x)
def kf (xs : List Int) (g : Int) : List Int:=xs.filter fun x=>decide (x < g)
theorem kn {xs : List Int} {g : Int} {i : Nat} (h : i < xs.length) : yV (xs.take (i + 1)) g = if g <= xs.getD i default then yV (xs.take i) g ++ [xs.getD i default] else yV (xs.take i) g:=by
 unfold yV;rw [zS h,List.filter_append]
 by_cases hg : g <= xs.getD i default
 ·rw [if_pos hg,List.filter_cons_of_pos (by simpa only [decide_eq_true_eq] using hg)];rfl
 ·rw [if_neg hg,List.filter_cons_of_neg (by simpa only [decide_eq_true_eq] using hg)];simp only [List.filter_nil,List.append_nil]
theorem kj {xs : List Int} {g : Int} {i : Nat} (h : i < xs.length) : kf (xs.take (i + 1)) g = if xs.getD i default < g then kf (xs.take i) g ++ [xs.getD i default] else kf (xs.take i) g:=by
 unfold kf;rw [zS h,List.filter_append]
 by_cases hg : xs.getD i default < g
 ·rw [if_pos hg,List.filter_cons_of_pos (by simpa only [decide_eq_true_eq] using hg)];rfl
 ·rw [if_neg hg,List.filter_cons_of_neg (by simpa only [decide_eq_true_eq] using hg)];simp only [List.filter_nil,List.append_nil]
theorem zc7 (xs : List Int) (g : Int) (i : Nat) : (yV (xs.take i) g).length <= xs.length:=by
 have h1:=List.length_filter_le (fun x=>decide (g <= x)) (xs.take i)
 have h2 : (xs.take i).length = min i xs.length:=List.length_take
 unfold yV;omega
theorem zcr (xs : List Int) (g : Int) (i : Nat) : (kf (xs.take i) g).length <= xs.length:=by
 have h1:=List.length_filter_le (fun x=>decide (x < g)) (xs.take i)
 have h2 : (xs.take i).length = min i xs.length:=List.length_take
 unfold kf;omega
def slA (xs : List Int) : AV:=.sl xs.isEmpty (ints xs)
def fQ (xs : List Int) (g : Int) : AV:=.tup [slA (yV xs g),slA (kf xs g),.int .i64 0]
def jU (xs : List Int) (g : Int) : AV:=if z7 xs g = 0 then fQ xs g else .tup [.sl true [],.sl true [],.int .i64 (z7 xs g)]
theorem zba (nl : Bool) (xs : List Int) (g : Int) (hx : xs.length <= 100000) : Comp Tryz.prog 20 [.sl nl (ints xs),.int .i64 g] (jU xs g):=by
 refine Comp.body (T:=tab) (res:=[.tmp 4,.tmp 5,.tmp 6]) zb [] Tryz.func20 rfl (by kernel_rfl) Tryz.ntmps20 rfl (by simp only [List.length_cons,List.length_nil];decide) (by simp only [lowL,AV.low,lowI];rfl) ?_;conv=>whnf
 refine za.ret (zb4 nl xs g hx) ?_
 conv=>whnf
 repeat' first|((with_reducible apply XBr.bne) <;> (intro h;first|(exfalso;omega)|(conv=>whnf)))|fail
 ·refine ⟨?_⟩
  unfold jU;rw [if_neg h]
  exact Froz.low rfl
 ·refine Walk.nilgr 4 3 rfl (Walk.nilgr 5 3 rfl ?_)
  refine Walk.loop zb [] (fun i : Nat=>i <= xs.length) (fun i=>[(0,.sl nl (ints xs)),(1,.int .i64 g),(16,.sl nl (ints xs)),(17,.int .i64 xs.length),(18,.int .i64 i),(4,.gr 0 (yV (xs.take i) g).length),(5,.gr 1 (kf (xs.take i) g).length)])
   (fun i=>[.grow 3 (yV (xs.take i) g).isEmpty (ints (yV (xs.take i) g)),.grow 3 (kf (xs.take i) g).isEmpty (ints (kf (xs.take i) g))]) (fun i=>xs.length - i) 0 (by omega) rfl ⟨rfl,rfl,rfl,by simp only [List.length_map];rfl,rfl,rfl,rfl,trivial⟩ ?_
  intro i h2
  have hk:=zc7 xs g i
  have ht:=zcr xs g i
  conv=>whnf
  repeat' first|((with_reducible apply XBr.dec) <;> (intro h;first|(exfalso;omega)|((try simp only [List.length_map] at h);first|(exfalso;omega)|(conv=>whnf))))|((with_reducible refine XInt.i64 (by omega) (by omega) ?_);conv=>whnf)|((with_reducible refine zj.mk ?_ ?_);(first | omega | rfl | decide|exact ⟨rfl,by decide,rfl⟩|exact zz _|exact zp _|exact zq _|(unfold Room;constructor <;> ((try simp) <;> omega))|exact ⟨rfl,by simp only [List.length_map],by unfold Room;constructor <;> ((try simp) <;> omega)⟩|exact ⟨by omega,by omega,by unfold Room;constructor <;> ((try simp) <;> omega)⟩);conv=>whnf)|(((with_reducible refine XIx.nat ?_ ?_ ?_);omega;(intro _;rfl));conv=>whnf)|fail
  ·refine zh.go (i + 1) (by omega) (by omega) ?_ ⟨rfl,rfl,rfl,rfl,rfl,?_,?_,trivial⟩
   ·simp only [kn (show i < xs.length by omega),kj (show i < xs.length by omega),if_pos h,if_neg (show ¬ xs.getD i default < g by omega),List.map_append]
    simp
   ·simp only [kn (show i < xs.length by omega),if_pos h,List.length_append];rfl
   ·simp only [kj (show i < xs.length by omega),if_neg (show ¬ xs.getD i default < g by omega)];rfl
  ·refine zh.go (i + 1) (by omega) (by omega) ?_ ⟨rfl,rfl,rfl,rfl,rfl,?_,?_,trivial⟩
   ·simp only [kn (show i < xs.length by omega),kj (show i < xs.length by omega),if_neg h,if_pos (show xs.getD i default < g by omega),List.map_append]
    simp
   ·simp only [kn (show i < xs.length by omega),if_neg h];rfl
   ·simp only [kj (show i < xs.length by omega),if_pos (show xs.getD i default < g by omega),List.length_append];rfl
  ·have hi : i = xs.length:=by omega
   subst hi
   rw [List.take_length]
   refine ⟨?_⟩
   unfold jU;rw [if_pos (by assumption)]
   exact Froz.tup (.cons (Froz.grow rfl (by simp) (lowI _)) (.cons (Froz.grow rfl (by simp) (lowI _)) (.cons (Froz.low rfl) .nil)))
end GA
end
section
namespace GA
open Go Go.RowKit Go.Proofs
theorem g8 (nl : Bool) (xs : List Int) (g : Int) (hx : xs.length <= 100000) : Comp Tryz.prog 22 [.sl nl (ints xs),.int .i64 g] (.tup [slA (yV xs g),slA (kf xs g)]):=by
 refine Comp.body (T:=tab) (res:=[.tmp 4,.tmp 5]) zb [] Tryz.func22 rfl (by kernel_rfl) Tryz.ntmps22 rfl (by simp only [List.length_cons,List.length_nil];decide) (by simp only [lowL,AV.low,lowI];rfl) ?_;conv=>whnf
 refine Walk.nilgr 6 3 rfl (Walk.nilgr 7 3 rfl ?_)
 refine Walk.loop zb [] (fun i : Nat=>i <= xs.length) (fun i=>[(0,.sl nl (ints xs)),(1,.int .i64 g),(8,.int .i64 i),(6,.gr 0 (yV (xs.take i) g).length),(7,.gr 1 (kf (xs.take i) g).length)])
   (fun i=>[.grow 3 (yV (xs.take i) g).isEmpty (ints (yV (xs.take i) g)),.grow 3 (kf (xs.take i) g).isEmpty (ints (kf (xs.take i) g))]) (fun i=>xs.length - i) 0 (by omega) rfl ⟨rfl,rfl,rfl,rfl,rfl,trivial⟩ ?_
 intro i h2
 have hk:=zc7 xs g i
 have ht:=zcr xs g i
 conv=>whnf
 repeat' first|((with_reducible apply XBr.dec) <;> (intro h;first|(exfalso;omega)|((try simp only [List.length_map] at h);first|(exfalso;omega)|(conv=>whnf))))|((with_reducible refine XInt.i64 (by omega) (by omega) ?_);conv=>whnf)|((with_reducible refine zj.mk ?_ ?_);(first | omega | rfl | decide|exact ⟨rfl,by decide,rfl⟩|exact zz _|exact zp _|exact zq _|(unfold Room;constructor <;> ((try simp) <;> omega))|exact ⟨rfl,by simp only [List.length_map],by unfold Room;constructor <;> ((try simp) <;> omega)⟩|exact ⟨by omega,by omega,by unfold Room;constructor <;> ((try simp) <;> omega)⟩);conv=>whnf)|(((with_reducible refine XIx.nat ?_ ?_ ?_);omega;(intro _;rfl));conv=>whnf)|fail
 ·refine zh.go (i + 1) (by omega) (by omega) ?_ ⟨rfl,rfl,rfl,?_,?_,trivial⟩
  ·simp only [kn (show i < xs.length by omega),kj (show i < xs.length by omega),if_pos h,if_neg (show ¬ g <= xs.getD i default by omega),List.map_append]
   simp
  ·simp only [kn (show i < xs.length by omega),if_neg (show ¬ g <= xs.getD i default by omega)];rfl
  ·simp only [kj (show i < xs.length by omega),if_pos h,List.length_append];rfl
 ·refine zh.go (i + 1) (by omega) (by omega) ?_ ⟨rfl,rfl,rfl,?_,?_,trivial⟩
  ·simp only [kn (show i < xs.length by omega),kj (show i < xs.length by omega),if_neg h,if_pos (show g <= xs.getD i default by omega),List.map_append]
   simp
  ·simp only [kn (show i < xs.length by omega),if_pos (show g <= xs.getD i default by omega),List.length_append];rfl
  ·simp only [kj (show i < xs.length by omega),if_neg h];rfl
 ·have hi : i = xs.length:=by omega
  subst hi
  rw [List.take_length]
  exact ⟨Froz.tup (.cons (Froz.grow rfl (by simp) (lowI _)) (.cons (Froz.grow rfl (by simp) (lowI _)) .nil))⟩
def cnt (xs : List Int) (g : Int) : Int:=(yV xs g).length
theorem zeb (xs : List Int) {g g' : Int} (h : g <= g') : cnt xs g' <= cnt xs g:=by
 unfold cnt yV
 have : (xs.filter fun x=>decide (g' <= x)).length <= (xs.filter fun x=>decide (g <= x)).length:=by
  rw [<- List.countP_eq_length_filter,<- List.countP_eq_length_filter]
  apply List.countP_mono_left
  intro x _ hx;simp at hx ⊢;omega
 omega
def gS (xs : List Int) (most : Int) : Nat -> Int -> Option Int
 | 0,_=>none
 | n + 1,g=>if cnt xs g <= most then some g else gS xs most n (g + 1)
theorem jR {xs : List Int} {most : Int} : ∀ {n : Nat} {g r : Int},g <= r -> r < g + n -> cnt xs r <= most -> (∀ j,g <= j -> j < r -> ¬ cnt xs j <= most) -> gS xs most n g = some r
 | 0,g,r,h1,h2,_,_=>by omega
 | n + 1,g,r,h1,h2,h3,h4=>by
   unfold gS
   by_cases hg : g = r
   ·subst hg;rw [if_pos h3]
   ·rw [if_neg (h4 g (by omega) (by omega))]
    exact jR (by omega) (by omega) h3 fun j a b=>h4 j (by omega) b
theorem vj {xs : List Int} {most : Int} : ∀ {n : Nat} {g : Int},(∀ j,g <= j -> j < g + n -> ¬ cnt xs j <= most) -> gS xs most n g = none
 | 0,_,_=>rfl
 | n + 1,g,h=>by
   unfold gS
   rw [if_neg (h g (by omega) (by omega))]
   exact vj fun j a b=>h j (by omega) (by omega)
def kG (xs : List Int) (most : Int) (e : Int) : AV:=
 if e ≠ 0 then .tup [.int .i64 0,.int .i64 e] else if most < 0 then .tup [.int .i64 0,.int .i64 3] else
 match gS xs most 40 1 with | some g=>.tup [.int .i64 g,.int .i64 0] | none=>.tup [.int .i64 0,.int .i64 6]
theorem zdA {xs : List Int} (h : z7 xs 1 = 0) {g : Int} (h1 : 1 <= g) (h2 : g <= 40) : z7 xs g = 0:=by
 unfold z7 at h ⊢
 split at h
 ·cases h
 ·split at h
  ·rename_i a b
   simp only [Bool.and_eq_true] at b
   rw [if_neg a,if_pos (by simp only [Bool.and_eq_true];exact ⟨b.1,by simp [inB];omega⟩)]
  ·cases h
theorem gauge_c (nl : Bool) (xs : List Int) (most : Int) (hx : xs.length <= 100000) : Comp Tryz.prog 24 [.sl nl (ints xs),.int .i64 most] (kG xs most (z7 xs 1)):=by
 refine Comp.body (T:=tab) (res:=[.tmp 4,.tmp 5]) zb [] Tryz.func24 rfl (by kernel_rfl) Tryz.ntmps24 rfl (by simp only [List.length_cons,List.length_nil];decide) (by simp only [lowL,AV.low,lowI];rfl) ?_;conv=>whnf
 refine za.ret (zb4 nl xs 1 hx) ?_
 conv=>whnf
 repeat' first|((with_reducible apply XBr.dec) <;> (intro h;first|(exfalso;omega)|((try simp only [List.length_map] at h);first|(exfalso;omega)|(conv=>whnf))))|((with_reducible apply XBr.bne) <;> (intro h;first|(exfalso;omega)|(conv=>whnf)))|fail
 ·refine ⟨?_⟩
  unfold kG;rw [if_pos h]
  exact Froz.low rfl
 ·refine ⟨?_⟩
  unfold kG;rw [if_neg (by omega),if_pos (by omega)]
  exact Froz.low rfl
 ·rename_i h0
  refine Walk.loop zb [] (fun g : Int=>1 <= g /\ g <= 41 /\ ∀ j,1 <= j -> j < g -> ¬ cnt xs j <= most) (fun g=>[(0,.sl nl (ints xs)),(1,.int .i64 most),(7,.int .i64 g)]) (fun _=>[]) (fun g=>(41 - g).toNat) 1 ⟨by omega,by omega,fun j a b=>by omega⟩ rfl ⟨rfl,rfl,rfl,trivial⟩ ?_
  rintro g ⟨h1,h2,h3⟩
  conv=>whnf
  repeat' first|((with_reducible apply XBr.dec) <;> (intro h;first|(exfalso;omega)|((try simp only [List.length_map] at h);first|(exfalso;omega)|(conv=>whnf))))|fail
  ·refine za.ret (zba nl xs g hx) ?_
   have hr : jU xs g = fQ xs g:=by unfold jU;rw [if_pos (zdA h0 (by omega) (by omega))]
   rw [hr]
   conv=>whnf
   repeat' first|((with_reducible apply XBr.dec) <;> (intro h;first|(exfalso;omega)|((try simp only [List.length_map] at h);first|(exfalso;omega)|(conv=>whnf))))|((with_reducible refine XInt.i64 (by omega) (by omega) ?_);conv=>whnf)|fail
   ·refine ⟨?_⟩
    have hc : cnt xs g <= most:=h
    unfold kG;rw [if_neg (by omega),if_neg (by omega),jR (r:=g) (by omega) (by omega) hc fun j a b=>h3 j a b]
    exact Froz.low rfl
   ·have hc : ¬ cnt xs g <= most:=h
    refine zh.go (g + 1) ⟨by omega,by omega,fun j a b=>?_⟩ (by omega) rfl ⟨rfl,rfl,rfl,trivial⟩
    by_cases hj : j = g
    ·subst hj;exact hc
    ·exact h3 j a (by omega)
  ·refine ⟨?_⟩
   unfold kG;rw [if_neg (by omega),if_neg (by omega),vj fun j a b=>h3 j a (by omega)]
   exact Froz.low rfl
theorem zeH (nl : Bool) (xs : List Int) (most : Int) (hx : xs.length <= 100000) : Comp Tryz.prog 25 [.sl nl (ints xs),.int .i64 most] (kG xs most (vn xs 1)):=by
 refine Comp.body (T:=tab) (res:=[.tmp 4,.tmp 5]) zb [] Tryz.func25 rfl (by kernel_rfl) Tryz.ntmps25 rfl (by simp only [List.length_cons,List.length_nil];decide) (by simp only [lowL,AV.low,lowI];rfl) ?_;conv=>whnf
 refine za.ret (sizes_c nl xs 1) ?_
 conv=>whnf
 repeat' first|((with_reducible apply XBr.dec) <;> (intro h;first|(exfalso;omega)|((try simp only [List.length_map] at h);first|(exfalso;omega)|(conv=>whnf))))|((with_reducible apply XBr.bne) <;> (intro h;first|(exfalso;omega)|(conv=>whnf)))|fail
 ·refine ⟨?_⟩
  unfold kG;rw [if_pos h]
  exact Froz.low rfl
 ·refine ⟨?_⟩
  unfold kG;rw [if_neg (by omega),if_pos (by omega)]
  exact Froz.low rfl
 ·rename_i h0
  refine Walk.loop zb [] (fun g : Int=>0 <= g /\ g <= 40 /\ ∀ j,g < j -> j <= 40 -> cnt xs j <= most) (fun g=>[(0,.sl nl (ints xs)),(1,.int .i64 most),(7,.int .i64 g)]) (fun _=>[]) (fun g=>g.toNat) 40 ⟨by omega,by omega,fun j a b=>by omega⟩ rfl ⟨rfl,rfl,rfl,trivial⟩ ?_
  rintro g ⟨h1,h2,h3⟩
  conv=>whnf
  repeat' first|((with_reducible apply XBr.dec) <;> (intro h;first|(exfalso;omega)|((try simp only [List.length_map] at h);first|(exfalso;omega)|(conv=>whnf))))|fail
  ·refine za.ret (g8 nl xs g hx) ?_
   conv=>whnf
   repeat' first|((with_reducible apply XBr.dec) <;> (intro h;first|(exfalso;omega)|((try simp only [List.length_map] at h);first|(exfalso;omega)|(conv=>whnf))))|((with_reducible apply XBr.beq) <;> (intro h;first|(exfalso;omega)|(conv=>whnf)))|((with_reducible refine XInt.i64 (by omega) (by omega) ?_);conv=>whnf)|fail
   ·rename_i hc
    have hc : most < cnt xs 40:=by subst h;exact hc
    refine ⟨?_⟩
    unfold kG;rw [if_neg (by omega),if_neg (by omega),vj fun j a b hj=>by have:=zeb xs (show j <= 40 by omega);omega]
    exact Froz.low rfl
   ·rename_i hc
    have hc : most < cnt xs g:=hc
    refine ⟨?_⟩
    unfold kG;rw [if_neg (by omega),if_neg (by omega),jR (r:=g + 1) (by omega) (by omega) (h3 _ (by omega) (by omega)) fun j a b hj=>by have:=zeb xs (show j <= g by omega);omega]
    exact Froz.low rfl
   ·have hc : ¬ most < cnt xs g:=h
    refine zh.go (g - 1) ⟨by omega,by omega,fun j a b=>?_⟩ (by omega) rfl ⟨rfl,rfl,rfl,trivial⟩
    by_cases hj : j = g
    ·subst hj;omega
    ·exact h3 j (by omega) b
  ·refine ⟨?_⟩
   unfold kG;rw [if_neg (by omega),if_neg (by omega),jR (r:=1) (by omega) (by omega) (h3 _ (by omega) (by omega)) fun j a b=>by omega]
   exact Froz.low rfl
end GA
end
section
namespace GA
open Go Go.RowKit Go.Proofs
structure Sk where
 m : Int
 o : Int
 deriving Inhabited,DecidableEq
def skA (s : Sk) : AV:=.agg [.int .i64 s.m,.int .i64 s.o]
def prA (p : Int × Int) : AV:=.agg [.int .i64 p.1,.int .i64 p.2]
theorem skL {n : Nat} (s : Sk) : (skA s).low n = true:=rfl
theorem prL {n : Nat} (p : Int × Int) : (prA p).low n = true:=rfl
theorem yU {n : Nat} (xs : List Sk) : lowL n (xs.map skA) = true:=ja (fun _=>rfl) xs
theorem kg {n : Nat} (xs : List (Int × Int)) : lowL n (xs.map prA) = true:=ja (fun _=>rfl) xs
theorem zq (xs : List Sk) : wide 2 (xs.map skA) = true:=wC (f:=skA) (n:=2) (fun _=>rfl) (fun _=>rfl) xs
theorem zp (xs : List (Int × Int)) : wide 2 (xs.map prA) = true:=wC (f:=prA) (n:=2) (fun _=>rfl) (fun _=>rfl) xs
theorem idxf_sk (nl : Bool) (xs : List (Sk)) (g : FuncId) (caps : List AV) (p : Sk -> Bool) (hl : lowL 0 caps = true) (hx : xs.length <= 100000) (hp : ∀ x ∈ xs,Comp Tryz.prog g (skA x :: caps) (.bool (p x))) :
  Comp Tryz.prog 116 [.sl nl (xs.map skA),.fn g caps] (.int .i64 (idxR p xs)):=by
 refine Comp.body (T:=tab) (res:=[.tmp 4]) zb [] Tryz.func116 rfl (by kernel_rfl) Tryz.ntmps116 rfl (by simp only [List.length_cons,List.length_nil];decide) (by simp only [lowL,AV.low,yU,hl];rfl) ?_;conv=>whnf
 refine Walk.loop zb [] (fun i : Nat=>i <= xs.length /\ ∀ j,j < i -> p (xs.getD j default) = false) (fun i=>[(0,.sl nl (xs.map skA)),(1,.fn g caps),(7,.int .i64 xs.length),(8,.int .i64 i)]) (fun _=>[]) (fun i=>xs.length - i) 0 ⟨by omega,by omega⟩ rfl ⟨rfl,rfl,by simp only [List.length_map];rfl,rfl,trivial⟩ ?_
 rintro i ⟨h2,h3⟩
 conv=>whnf
 repeat' first|((with_reducible apply XBr.dec) <;> (intro h;first|(exfalso;omega)|((try simp only [List.length_map] at h);first|(exfalso;omega)|(conv=>whnf))))|(((with_reducible refine XIx.nat ?_ ?_ ?_);omega;(intro _;rfl));conv=>whnf)|fail
 ·refine za.ret (hp _ (zu (i:=i) (d:=default) (by omega))) ?_
  conv=>whnf
  refine XBr.mk' ?_ ?_ <;> intro h4 <;> (conv=>whnf)
  ·refine XOut.int ?_
   simp only [idxR,gR (d:=default) (i:=i) (by omega) h4 h3]
  ·skip
   repeat' first|((with_reducible refine XInt.i64 (by omega) (by omega) ?_);conv=>whnf)|fail
   refine zh.go (i + 1) ⟨by omega,fun j hj=>?_⟩ (by omega) rfl ⟨rfl,rfl,rfl,rfl,trivial⟩
   by_cases hji : j = i
   ·subst hji;exact h4
   ·exact h3 j (by omega)
 ·refine XOut.int ?_
  simp only [idxR,gJ (d:=default) fun j hj=>h3 j (by omega)]
theorem contf_sk (nl : Bool) (xs : List (Sk)) (g : FuncId) (caps : List AV) (p : Sk -> Bool) (hl : lowL 0 caps = true) (hx : xs.length <= 100000) (hp : ∀ x ∈ xs,Comp Tryz.prog g (skA x :: caps) (.bool (p x))) :
  Comp Tryz.prog 102 [.sl nl (xs.map skA),.fn g caps] (.bool (xs.any p)):=by
 refine Comp.body (T:=tab) (res:=[.tmp 4]) zb [] Tryz.func102 rfl (by kernel_rfl) Tryz.ntmps102 rfl (by simp only [List.length_cons,List.length_nil];decide) (by simp only [lowL,AV.low,yU,hl];rfl) ?_;conv=>whnf
 refine za.ret (idxf_sk nl xs g caps p hl hx hp) ?_
 conv=>whnf
 refine XOut.bool ?_
 rw [Bool.eq_iff_iff,decide_eq_true_eq];exact zaN
theorem every1_sk (x : Sk) (g : FuncId) (caps : List AV) (p : Sk -> Bool) (hl : lowL 0 caps = true) (hp : Comp Tryz.prog g (skA x :: caps) (.bool (p x))) :
  Comp Tryz.prog 103 [skA x,.pim [.fn g caps]] (.bool (!p x)):=by
 refine Comp.body (T:=tab) (res:=[.tmp 3]) zb [] Tryz.func103 rfl (by kernel_rfl) Tryz.ntmps103 rfl (by simp only [List.length_cons,List.length_nil];decide) (by simp only [lowL,AV.low,skL,hl];rfl) ?_;conv=>whnf
 refine za.ret hp ?_
 conv=>whnf
 exact XOut.bool rfl
theorem zdW (nl : Bool) (xs : List (Sk)) (g : FuncId) (caps : List AV) (p : Sk -> Bool) (hl : lowL 0 caps = true) (hx : xs.length <= 100000) (hp : ∀ x ∈ xs,Comp Tryz.prog g (skA x :: caps) (.bool (p x))) :
  Comp Tryz.prog 72 [.sl nl (xs.map skA),.fn g caps] (.bool (xs.all p)):=by
 refine Comp.body (T:=tab) (res:=[.tmp 4]) zb [] Tryz.func72 rfl (by kernel_rfl) Tryz.ntmps72 rfl (by simp only [List.length_cons,List.length_nil];decide) (by simp only [lowL,AV.low,yU,hl];rfl) ?_;conv=>whnf
 refine za.ret (contf_sk nl xs 103 [.pim [.fn g caps]] (fun x=>!p x) (by simp only [lowL,AV.low,hl];rfl) hx fun x hm=>every1_sk x g caps p hl (hp x hm)) ?_
 conv=>whnf
 refine XOut.bool ?_
 rw [List.not_any_eq_all_not];simp
theorem idxf_pr (nl : Bool) (xs : List (Int × Int)) (g : FuncId) (caps : List AV) (p : Int × Int -> Bool) (hl : lowL 0 caps = true) (hx : xs.length <= 100000) (hp : ∀ x ∈ xs,Comp Tryz.prog g (prA x :: caps) (.bool (p x))) :
  Comp Tryz.prog 117 [.sl nl (xs.map prA),.fn g caps] (.int .i64 (idxR p xs)):=by
 refine Comp.body (T:=tab) (res:=[.tmp 4]) zb [] Tryz.func117 rfl (by kernel_rfl) Tryz.ntmps117 rfl (by simp only [List.length_cons,List.length_nil];decide) (by simp only [lowL,AV.low,kg,hl];rfl) ?_;conv=>whnf
 refine Walk.loop zb [] (fun i : Nat=>i <= xs.length /\ ∀ j,j < i -> p (xs.getD j default) = false) (fun i=>[(0,.sl nl (xs.map prA)),(1,.fn g caps),(7,.int .i64 xs.length),(8,.int .i64 i)]) (fun _=>[]) (fun i=>xs.length - i) 0 ⟨by omega,by omega⟩ rfl ⟨rfl,rfl,by simp only [List.length_map];rfl,rfl,trivial⟩ ?_
 rintro i ⟨h2,h3⟩
 conv=>whnf
 repeat' first|((with_reducible apply XBr.dec) <;> (intro h;first|(exfalso;omega)|((try simp only [List.length_map] at h);first|(exfalso;omega)|(conv=>whnf))))|(((with_reducible refine XIx.nat ?_ ?_ ?_);omega;(intro _;rfl));conv=>whnf)|fail
 ·refine za.ret (hp _ (zu (i:=i) (d:=default) (by omega))) ?_
  conv=>whnf
  refine XBr.mk' ?_ ?_ <;> intro h4 <;> (conv=>whnf)
  ·refine XOut.int ?_
   simp only [idxR,gR (d:=default) (i:=i) (by omega) h4 h3]
  ·skip
   repeat' first|((with_reducible refine XInt.i64 (by omega) (by omega) ?_);conv=>whnf)|fail
   refine zh.go (i + 1) ⟨by omega,fun j hj=>?_⟩ (by omega) rfl ⟨rfl,rfl,rfl,rfl,trivial⟩
   by_cases hji : j = i
   ·subst hji;exact h4
   ·exact h3 j (by omega)
 ·refine XOut.int ?_
  simp only [idxR,gJ (d:=default) fun j hj=>h3 j (by omega)]
theorem contf_pr (nl : Bool) (xs : List (Int × Int)) (g : FuncId) (caps : List AV) (p : Int × Int -> Bool) (hl : lowL 0 caps = true) (hx : xs.length <= 100000) (hp : ∀ x ∈ xs,Comp Tryz.prog g (prA x :: caps) (.bool (p x))) :
  Comp Tryz.prog 104 [.sl nl (xs.map prA),.fn g caps] (.bool (xs.any p)):=by
 refine Comp.body (T:=tab) (res:=[.tmp 4]) zb [] Tryz.func104 rfl (by kernel_rfl) Tryz.ntmps104 rfl (by simp only [List.length_cons,List.length_nil];decide) (by simp only [lowL,AV.low,kg,hl];rfl) ?_;conv=>whnf
 refine za.ret (idxf_pr nl xs g caps p hl hx hp) ?_
 conv=>whnf
 refine XOut.bool ?_
 rw [Bool.eq_iff_iff,decide_eq_true_eq];exact zaN
theorem every1_pr (x : Int × Int) (g : FuncId) (caps : List AV) (p : Int × Int -> Bool) (hl : lowL 0 caps = true) (hp : Comp Tryz.prog g (prA x :: caps) (.bool (p x))) :
  Comp Tryz.prog 105 [prA x,.pim [.fn g caps]] (.bool (!p x)):=by
 refine Comp.body (T:=tab) (res:=[.tmp 3]) zb [] Tryz.func105 rfl (by kernel_rfl) Tryz.ntmps105 rfl (by simp only [List.length_cons,List.length_nil];decide) (by simp only [lowL,AV.low,prL,hl];rfl) ?_;conv=>whnf
 refine za.ret hp ?_
 conv=>whnf
 exact XOut.bool rfl
theorem vy (nl : Bool) (xs : List (Int × Int)) (g : FuncId) (caps : List AV) (p : Int × Int -> Bool) (hl : lowL 0 caps = true) (hx : xs.length <= 100000) (hp : ∀ x ∈ xs,Comp Tryz.prog g (prA x :: caps) (.bool (p x))) :
  Comp Tryz.prog 74 [.sl nl (xs.map prA),.fn g caps] (.bool (xs.all p)):=by
 refine Comp.body (T:=tab) (res:=[.tmp 4]) zb [] Tryz.func74 rfl (by kernel_rfl) Tryz.ntmps74 rfl (by simp only [List.length_cons,List.length_nil];decide) (by simp only [lowL,AV.low,kg,hl];rfl) ?_;conv=>whnf
 refine za.ret (contf_pr nl xs 105 [.pim [.fn g caps]] (fun x=>!p x) (by simp only [lowL,AV.low,hl];rfl) hx fun x hm=>every1_pr x g caps p hl (hp x hm)) ?_
 conv=>whnf
 refine XOut.bool ?_
 rw [List.not_any_eq_all_not];simp
theorem sack_in (s : Sk) : Comp Tryz.prog 73 [skA s] (.bool (inB s.m 1 100 && inB s.o 0 5)):=by
 refine Comp.body (T:=tab) (res:=[.tmp 2]) zb [] Tryz.func73 rfl (by kernel_rfl) Tryz.ntmps73 rfl (by simp only [List.length_cons,List.length_nil];decide) (by rfl) ?_;conv=>whnf
 refine za.ret (in_c _ _ _) ?_
 conv=>whnf
 refine XBr.mk' ?_ ?_ <;> intro h <;> (conv=>whnf)
 ·skip
  repeat' first|((with_reducible apply XBr.tt);conv=>whnf)|fail
  refine za.ret (in_c _ _ _) ?_
  conv=>whnf
  repeat' first|((with_reducible apply XBr.tt);conv=>whnf)|fail
  refine XOut.bool ?_
  simp [h]
 ·skip
  repeat' first|((with_reducible apply XBr.ff);conv=>whnf)|fail
  refine XOut.bool ?_
  simp [h]
theorem pair_ne (p : Int × Int) : Comp Tryz.prog 77 [prA p] (.bool (p.1 != p.2)):=by
 refine Comp.body (T:=tab) (res:=[.tmp 2]) zb [] Tryz.func77 rfl (by kernel_rfl) Tryz.ntmps77 rfl (by simp only [List.length_cons,List.length_nil];decide) (by rfl) ?_;conv=>whnf
 repeat' first|((first|(with_reducible apply XArr.pim0)|(with_reducible apply XArr.pim1));conv=>whnf)|fail
 exact XOut.bool rfl
structure Ld where
 bears : Int
 shrink : Int
 nls : Bool
 sacks : List Sk
 nla : Bool
 apart : List (Int × Int)
 nlw : Bool
 wth : List (Int × Int)
def ldC (l : Ld) : List AV:=[.int .i64 l.bears,.int .i64 l.shrink,.sl l.nls (l.sacks.map skA),.sl l.nla (l.apart.map prA),.sl l.nlw (l.wth.map prA)]
def ldA (l : Ld) : AV:=.agg (ldC l)
theorem jo {n : Nat} (l : Ld) : lowL n (ldC l) = true:=by simp only [ldC,lowL,AV.low,yU,kg];rfl
theorem ldL {n : Nat} (l : Ld) : (ldA l).low n = true:=by unfold ldA;simp only [AV.low,jo]
theorem sack_c (l : Ld) (n : Int) (hx : l.sacks.length <= 100000) : Comp Tryz.prog 76 [ldA l,.int .i64 n] (.bool (inB n 0 (l.sacks.length - 1))):=by
 refine Comp.body (T:=tab) (res:=[.tmp 4]) zb [] Tryz.func76 rfl (by kernel_rfl) Tryz.ntmps76 rfl (by simp only [List.length_cons,List.length_nil];decide) (by simp only [lowL,AV.low,ldL];rfl) ?_;conv=>whnf
 have hm : (l.sacks.map skA).length = l.sacks.length:=List.length_map ..
 repeat' first|((with_reducible refine XInt.i64 (by omega) (by omega) ?_);conv=>whnf)|fail
 refine za.ret (in_c _ _ _) ?_
 conv=>whnf
 refine XOut.bool ?_
 simp
theorem pair_in (l : Ld) (p : Int × Int) (hx : l.sacks.length <= 100000) : Comp Tryz.prog 75 [prA p,.pim (ldC l)] (.bool (inB p.1 0 (l.sacks.length - 1) && inB p.2 0 (l.sacks.length - 1))):=by
 refine Comp.body (T:=tab) (res:=[.tmp 3]) zb [] Tryz.func75 rfl (by kernel_rfl) Tryz.ntmps75 rfl (by simp only [List.length_cons,List.length_nil];decide) (by simp only [lowL,AV.low,prL,jo];rfl) ?_;conv=>whnf
 repeat' first|((with_reducible apply XArr.pim0);conv=>whnf)|fail
 refine za.ret (sack_c l _ hx) ?_
 conv=>whnf
 refine XBr.mk' ?_ ?_ <;> intro h <;> (conv=>whnf)
 ·skip
  repeat' first|((first|(with_reducible apply XBr.tt)|(with_reducible apply XArr.pim1));conv=>whnf)|fail
  refine za.ret (sack_c l _ hx) ?_
  conv=>whnf
  repeat' first|((with_reducible apply XBr.tt);conv=>whnf)|fail
  refine XOut.bool ?_
  simp [h]
 ·skip
  repeat' first|((with_reducible apply XBr.ff);conv=>whnf)|fail
  refine XOut.bool ?_
  simp [h]
end GA
end
section
namespace GA
open Go Go.RowKit Go.Proofs
def prIn (l : Ld) (p : Int × Int) : Bool:=inB p.1 0 (l.sacks.length - 1) && inB p.2 0 (l.sacks.length - 1)
def zi (l : Ld) : Int:=
 if 9 < l.sacks.length \/ 8 < l.apart.length \/ 8 < l.wth.length then 2
 else if (inB l.bears 1 100 && inB l.shrink 0 90) = false then 3
 else if (l.sacks.all fun s=>inB s.m 1 100 && inB s.o 0 5) = false then 3
 else if ((l.apart ++ l.wth).all (prIn l)) = false then 1
 else if ((l.apart ++ l.wth).all fun p=>p.1 != p.2) = false then 5 else 0
theorem kS (l : Ld) (hw : l.nla = true -> l.apart = []) (h1 : l.sacks.length <= 100000) (h2 : l.apart.length <= 1000) (h3 : l.wth.length <= 1000) : Comp Tryz.prog 16 [ldA l] (.int .i64 (zi l)):=by
 refine Comp.body (T:=tab) (res:=[.tmp 2]) zb [] Tryz.func16 rfl (by kernel_rfl) Tryz.ntmps16 rfl (by simp only [List.length_cons,List.length_nil];decide) (by simp only [lowL,AV.low,ldL];rfl) ?_;conv=>whnf
 have hA : ∀ n,Froz Tryz.prog [.grow 31 n ((l.apart ++ l.wth).map prA)] (.gr 0 (l.apart ++ l.wth).length) (.sl n ((l.apart ++ l.wth).map prA)):=fun n=>Froz.grow rfl (by simp) (kg _)
 cases hn : l.nla with
 | false =>
   apply Walk.drawX zb zk [] [2,5] (hsC [[],[.grow 31 false (l.apart.map prA)],[.grow 31 false ((l.apart ++ l.wth).map prA)]]) [_,_,.gr 0 l.apart.length,_,_,.gr 0 (l.apart ++ l.wth).length,_] (by kernel_rfl) rfl
   ·skip
    repeat' first|((with_reducible refine zj.mk ?_ ?_);(first | omega | rfl | decide|exact ⟨rfl,by decide,rfl⟩|exact zz _|exact zp _|exact zq _|(unfold Room;constructor <;> ((try simp) <;> omega))|exact ⟨rfl,by simp only [List.length_map],by unfold Room;constructor <;> ((try simp) <;> omega)⟩|exact ⟨by omega,by omega,by unfold Room;constructor <;> ((try simp) <;> omega)⟩);conv=>whnf)|(with_reducible apply XAnd.mk)|((first|(with_reducible apply Chk.go)|(with_reducible apply ChkA.go));conv=>whnf)|(exact zg.mk rfl rfl)|(exact zg.mk (by first | rfl|(simp only [List.map_append,List.length_append,List.length_map];done)|(simp only [List.map_append,List.length_append,List.length_map];rfl)) (by first | rfl|(simp only [List.map_append];done)|(simp only [List.map_append];rfl)))|(with_reducible exact trivial)|fail
    ·refine za.inl (T:=tab) (res:=[.tmp 2]) zb [] Tryz.func71 rfl (by kernel_rfl) Tryz.ntmps71 rfl (by simp only [List.length_append,List.length_cons,List.length_nil];decide) ?_;conv=>whnf
     refine XBr.no hn ?_
     conv=>whnf
     repeat' first|((with_reducible refine zj.mk ?_ ?_);(first | omega | rfl | decide|exact ⟨rfl,by decide,rfl⟩|exact zz _|exact zp _|exact zq _|(unfold Room;constructor <;> ((try simp) <;> omega))|exact ⟨rfl,by simp only [List.length_map],by unfold Room;constructor <;> ((try simp) <;> omega)⟩|exact ⟨by omega,by omega,by unfold Room;constructor <;> ((try simp) <;> omega)⟩);conv=>whnf)|(exact zg.mk (by first | rfl|(simp only [List.map_append,List.length_append,List.length_map];done)|(simp only [List.map_append,List.length_append,List.length_map];rfl)) (by first | rfl|(simp only [List.map_append];done)|(simp only [List.map_append];rfl)))|fail
   ·skip
    repeat' first|(with_reducible apply XAnd.mk)|((first|(with_reducible apply Chk.go)|(with_reducible apply ChkF.go)|(with_reducible apply ChkB.go));conv=>whnf)|(exact zg.mk rfl rfl)|(with_reducible exact trivial)|fail
   ·skip
    conv=>whnf
    repeat' first|((first|(with_reducible apply XBr.tt)|(with_reducible apply XBr.ff));conv=>whnf)|(with_reducible apply XBr.not)|((with_reducible apply XBr.dec) <;> (intro h;first|(exfalso;omega)|((try simp only [List.length_map] at h);first|(exfalso;omega)|(conv=>whnf))))|(refine za.ret (in_c _ _ _) ?_;conv=>whnf)|(refine za.ret (zdW l.nls l.sacks 73 [] _ rfl h1 fun x _=>sack_in x) ?_;conv=>whnf)|(refine za.lend (vy _ (l.apart ++ l.wth) 75 [.pim (ldC l)] (prIn l) (by simp only [lowL,AV.low,jo];rfl) (by simp;omega) fun x _=>pair_in l x h1) (.cons (hA _) (.cons (.low (by simp only [lowL,AV.low,jo];rfl)) .nil)) rfl ?_;conv=>whnf)|(refine za.lend (vy _ (l.apart ++ l.wth) 77 [] _ rfl (by simp;omega) fun x _=>pair_ne x) (.cons (hA _) (.cons (.low rfl) .nil)) rfl ?_;conv=>whnf)|((with_reducible apply XBr.mk') <;> (intro h;conv=>whnf))|fail
    all_goals ((try clear ha);clear hw hA hn;refine XOut.int ?_;unfold zi;(repeat' split) <;> first | rfl|(exfalso;omega) | simp_all)
 | true =>
   have ha:=hw hn
   apply Walk.drawX zb zk [] [5] (hsC [[],[.grow 31 l.wth.isEmpty ((l.apart ++ l.wth).map prA)]]) [_,_,.sl true [],_,_,.gr 0 (l.apart ++ l.wth).length,_] (by kernel_rfl) rfl
   ·skip
    repeat' first|((with_reducible refine zj.mk ?_ ?_);(first | omega | rfl | decide|exact ⟨rfl,by decide,rfl⟩|exact zz _|exact zp _|exact zq _|(unfold Room;constructor <;> ((try simp) <;> omega))|exact ⟨rfl,by simp only [List.length_map],by unfold Room;constructor <;> ((try simp) <;> omega)⟩|exact ⟨by omega,by omega,by unfold Room;constructor <;> ((try simp) <;> omega)⟩);conv=>whnf)|(with_reducible apply XAnd.mk)|((first|(with_reducible apply Chk.go)|(with_reducible apply ChkA.go));conv=>whnf)|(exact zg.mk rfl rfl)|(with_reducible exact trivial)|fail
    ·refine za.inl (T:=tab) (res:=[.tmp 2]) zb [] Tryz.func71 rfl (by kernel_rfl) Tryz.ntmps71 rfl (by simp only [List.length_append,List.length_cons,List.length_nil];decide) ?_;conv=>whnf
     refine XBr.yes hn ?_
     conv=>whnf
     repeat' first|(exact zg.mk rfl rfl)|fail
    exact zg.mk (by rw [ha];simp) (by rw [ha,List.nil_append,List.isEmpty_map];rfl)
   ·skip
    repeat' first|(with_reducible apply XAnd.mk)|((first|(with_reducible apply Chk.go)|(with_reducible apply ChkF.go)|(with_reducible apply ChkB.go));conv=>whnf)|(exact zg.mk rfl rfl)|(with_reducible exact trivial)|fail
   ·skip
    conv=>whnf
    repeat' first|((first|(with_reducible apply XBr.tt)|(with_reducible apply XBr.ff));conv=>whnf)|(with_reducible apply XBr.not)|((with_reducible apply XBr.dec) <;> (intro h;first|(exfalso;omega)|((try simp only [List.length_map] at h);first|(exfalso;omega)|(conv=>whnf))))|(refine za.ret (in_c _ _ _) ?_;conv=>whnf)|(refine za.ret (zdW l.nls l.sacks 73 [] _ rfl h1 fun x _=>sack_in x) ?_;conv=>whnf)|(refine za.lend (vy _ (l.apart ++ l.wth) 75 [.pim (ldC l)] (prIn l) (by simp only [lowL,AV.low,jo];rfl) (by simp;omega) fun x _=>pair_in l x h1) (.cons (hA _) (.cons (.low (by simp only [lowL,AV.low,jo];rfl)) .nil)) rfl ?_;conv=>whnf)|(refine za.lend (vy _ (l.apart ++ l.wth) 77 [] _ rfl (by simp;omega) fun x _=>pair_ne x) (.cons (hA _) (.cons (.low rfl) .nil)) rfl ?_;conv=>whnf)|((with_reducible apply XBr.mk') <;> (intro h;conv=>whnf))|fail
    all_goals ((try clear ha);clear hw hA hn;refine XOut.int ?_;unfold zi;(repeat' split) <;> first | rfl|(exfalso;omega) | simp_all)
end GA
end
section
namespace GA
open Go Go.RowKit Go.Proofs
def zO (l : Ld) (s : Sk) : Int:=s.m - s.m * l.shrink / 100
theorem zaF (l : Ld) (s : Sk) (h : 0 <= s.m) (h' : s.m <= 100) (h2 : 0 <= l.shrink) (h3 : l.shrink <= 100) : Comp Tryz.prog 31 [ldA l,skA s] (.int .i64 (zO l s)):=by
 refine Comp.body (T:=tab) (res:=[.tmp 4]) zb [] Tryz.func31 rfl (by kernel_rfl) Tryz.ntmps31 rfl (by simp only [List.length_cons,List.length_nil];decide) (by simp only [lowL,AV.low,ldL,skL];rfl) ?_;conv=>whnf
 have e1 : 0 <= s.m * l.shrink:=Int.mul_nonneg h h2
 have e2 : s.m * l.shrink <= 100 * 100:=Int.mul_le_mul h' h3 h2 (by omega)
 have e3 : (s.m * l.shrink).tdiv 100 = (s.m * l.shrink) / 100:=Int.tdiv_eq_ediv_of_nonneg e1
 repeat' first|((with_reducible refine XInt.i64 (by omega) (by omega) ?_);conv=>whnf)|((with_reducible refine zj.mk ?_ ?_);(first | omega | rfl | decide|exact ⟨rfl,by decide,rfl⟩|exact zz _|exact zp _|exact zq _|(unfold Room;constructor <;> ((try simp) <;> omega))|exact ⟨rfl,by simp only [List.length_map],by unfold Room;constructor <;> ((try simp) <;> omega)⟩|exact ⟨by omega,by omega,by unfold Room;constructor <;> ((try simp) <;> omega)⟩);conv=>whnf)|fail
 ·refine XOut.int ?_
  rw [e3];rfl
def ym : Nat -> Nat -> Nat -> List Int
 | 0,_,_=>[]
 | f + 1,i,s=>if s = 0 then [] else if s % 2 = 1 then (i : Int) :: ym f (i + 1) (s / 2) else ym f (i + 1) (s / 2)
theorem zbf : ∀ (f i : Nat),ym f i 0 = []
 | 0,_=>rfl
 | f + 1,_=>by simp [ym]
theorem wT : ∀ (f i s : Nat),(ym f i s).length <= f
 | 0,_,_=>by simp [ym]
 | f + 1,i,s=>by
   unfold ym;have:=wT f (i + 1) (s / 2)
   split
   ·simp
   ·split <;> simp <;> omega
def bits (s : Nat) : List Int:=ym 62 0 s
theorem wK (n : Nat) (hn : n < 4611686018427387904) : Comp Tryz.prog 30 [.int .i64 n] (slA (bits n)):=by
 refine Comp.body (T:=tab) (res:=[.tmp 2]) zb [] Tryz.func30 rfl (by kernel_rfl) Tryz.ntmps30 rfl (by simp only [List.length_cons,List.length_nil];decide) (by rfl) ?_;conv=>whnf
 refine Walk.nilgr 3 3 rfl ?_
 refine Walk.loop zb [] (fun g : Nat × Nat × List Int=>g.1 <= 62 /\ g.2.1 < 2 ^ (62 - g.1) /\ g.2.2 ++ ym (62 - g.1) g.1 g.2.1 = bits n) (fun g=>[(0,.int .i64 g.2.1),(3,.gr 0 g.2.2.length),(4,.int .i64 g.1)]) (fun g=>[.grow 3 g.2.2.isEmpty (ints g.2.2)]) (fun g=>g.2.1) (0,n,[]) ⟨by omega,by simpa using hn,rfl⟩ rfl ⟨rfl,rfl,rfl,trivial⟩ ?_
 rintro ⟨i,s,out⟩ ⟨h1,h2,h3⟩
 simp only at h1 h2 h3
 have hlen : (out ++ ym (62 - i) i s).length = (bits n).length:=by rw [h3]
 have hb:=wT 62 0 n
 have hl : out.length <= 62:=by unfold bits at hlen;rw [List.length_append] at hlen;omega
 have hp : 2 ^ (62 - i) <= 2 ^ 62:=Nat.pow_le_pow_right (by omega) (by omega)
 have e1 : (s : Int).tdiv 2 = ((s / 2 : Nat) : Int):=rfl
 have e2 : (s : Int).tmod 2 = ((s % 2 : Nat) : Int):=rfl
 have step : 0 < s -> 62 - i = (62 - (i + 1)) + 1:=fun h=>by
  rcases Nat.lt_or_ge i 62 with h | h
  ·omega
  ·rw [show 62 - i = 0 by omega] at h2;simp at h2;omega
 have half : 0 < s -> s / 2 < 2 ^ (62 - (i + 1)):=fun h=>by
  rw [step h,Nat.pow_succ] at h2;omega
 dsimp only
 conv=>whnf
 repeat' first|((with_reducible apply XBr.dec) <;> (intro h;first|(exfalso;omega)|((try simp only [List.length_map] at h);first|(exfalso;omega)|(conv=>whnf))))|((with_reducible apply XBr.beq) <;> (intro h;first|(exfalso;omega)|(conv=>whnf)))|((with_reducible refine XInt.i64 (by omega) (by omega) ?_);conv=>whnf)|((with_reducible refine zj.mk ?_ ?_);(first | omega | rfl | decide|exact ⟨rfl,by decide,rfl⟩|exact zz _|exact zp _|exact zq _|(unfold Room;constructor <;> ((try simp) <;> omega))|exact ⟨rfl,by simp only [List.length_map],by unfold Room;constructor <;> ((try simp) <;> omega)⟩|exact ⟨by omega,by omega,by unfold Room;constructor <;> ((try simp) <;> omega)⟩);conv=>whnf)|fail
 ·have hs:=step (by omega)
  refine zh.go (i + 1,s / 2,out ++ [(i : Int)]) ⟨by dsimp only;omega,half (by omega),?_⟩ (by dsimp only;omega) ?_ ⟨rfl,?_,rfl,trivial⟩
  ·rw [<- h3,hs]
   have : s % 2 = 1:=by rw [e2] at h;omega
   simp only [ym,if_neg (show ¬ s = 0 by omega),if_pos this,List.append_assoc,List.singleton_append,Nat.add_sub_cancel]
  ·simp
  ·simp only [List.length_append];rfl
 ·have hs:=step (by omega)
  refine zh.go (i + 1,s / 2,out) ⟨by dsimp only;omega,half (by omega),?_⟩ (by dsimp only;omega) rfl ⟨rfl,rfl,rfl,trivial⟩
  rw [<- h3,hs]
  have : ¬ s % 2 = 1:=by rw [e2] at h;omega
  simp only [ym,if_neg (show ¬ s = 0 by omega),if_neg this,Nat.add_sub_cancel]
 ·have hs : s = 0:=by omega
  subst hs
  rw [zbf,List.append_nil] at h3
  subst h3
  exact ⟨Froz.grow rfl (by simp) (lowI _)⟩
end GA
end
section
namespace GA
open Go Go.RowKit
theorem qu {n : Nat} (h : n < 9223372036854775808) : IntKind.i64.wrap (n : Int) = n:=by
 simp only [IntKind.wrap,IntKind.bits,IntKind.signed];simp;omega
theorem vl (a : Nat) : BitVec.ofInt IntKind.i64.bits (a : Int) = BitVec.ofNat 64 a:=BitVec.ofInt_natCast ..
theorem w7 {a b : Nat} (ha : a < 9223372036854775808) (hb : b < 9223372036854775808) : iand .i64 a b = ((a &&& b : Nat) : Int):=by
 have h : a &&& b < 9223372036854775808:=Nat.lt_of_le_of_lt Nat.and_le_left ha
 unfold iand
 rw [vl,vl]
 have : (BitVec.ofNat 64 a &&& BitVec.ofNat 64 b).toNat = a &&& b:=by
  rw [BitVec.toNat_and,BitVec.toNat_ofNat,BitVec.toNat_ofNat,Nat.mod_eq_of_lt (by omega),Nat.mod_eq_of_lt (by omega)]
 exact (congrArg (fun n : Nat=>IntKind.i64.wrap (n : Int)) this).trans (qu h)
theorem wP {a b : Nat} (ha : a < 9223372036854775808) (hb : b < 9223372036854775808) : ior .i64 a b = ((a ||| b : Nat) : Int):=by
 have h : a ||| b < 2 ^ 63:=Nat.or_lt_two_pow (n:=63) (by omega) (by omega)
 unfold ior
 rw [vl,vl]
 have : (BitVec.ofNat 64 a ||| BitVec.ofNat 64 b).toNat = a ||| b:=by
  rw [BitVec.toNat_or,BitVec.toNat_ofNat,BitVec.toNat_ofNat,Nat.mod_eq_of_lt (by omega),Nat.mod_eq_of_lt (by omega)]
 exact (congrArg (fun n : Nat=>IntKind.i64.wrap (n : Int)) this).trans (qu (by omega))
theorem zd9 {a b : Nat} (ha : a < 9223372036854775808) (hb : b < 9223372036854775808) : ixor .i64 a b = ((a ^^^ b : Nat) : Int):=by
 have h : a ^^^ b < 2 ^ 63:=Nat.xor_lt_two_pow (n:=63) (by omega) (by omega)
 unfold ixor
 rw [vl,vl]
 have : (BitVec.ofNat 64 a ^^^ BitVec.ofNat 64 b).toNat = a ^^^ b:=by
  rw [BitVec.toNat_xor,BitVec.toNat_ofNat,BitVec.toNat_ofNat,Nat.mod_eq_of_lt (by omega),Nat.mod_eq_of_lt (by omega)]
 exact (congrArg (fun n : Nat=>IntKind.i64.wrap (n : Int)) this).trans (qu (by omega))
def diff (a b : Nat) : Nat:=a ^^^ (a &&& b)
theorem ke {a b : Nat} (ha : a < 9223372036854775808) (hb : b < 9223372036854775808) : iandn .i64 a b = ((diff a b : Nat) : Int):=by
 have h0 : a &&& b < 2 ^ 63:=Nat.lt_of_le_of_lt Nat.and_le_left (by omega)
 have h : a ^^^ (a &&& b) < 2 ^ 63:=Nat.xor_lt_two_pow (n:=63) (by omega) h0
 unfold iandn
 rw [vl,vl]
 have hbv : BitVec.ofNat 64 a &&& ~~~ (BitVec.ofNat 64 b) = BitVec.ofNat 64 a ^^^ (BitVec.ofNat 64 a &&& BitVec.ofNat 64 b):=by
  apply BitVec.eq_of_getLsbD_eq;intro i hi;simp
  cases (BitVec.ofNat 64 a).getLsbD i <;> cases (BitVec.ofNat 64 b).getLsbD i <;> simp_all
 have : (BitVec.ofNat 64 a &&& ~~~ (BitVec.ofNat 64 b)).toNat = a ^^^ (a &&& b):=by
  rw [hbv,BitVec.toNat_xor,BitVec.toNat_and,BitVec.toNat_ofNat,BitVec.toNat_ofNat,Nat.mod_eq_of_lt (by omega),Nat.mod_eq_of_lt (by omega)]
 exact (congrArg (fun n : Nat=>IntKind.i64.wrap (n : Int)) this).trans (qu (by omega))
theorem shr_nat {a k : Nat} (hk : k <= 64) : (a : Int).fdiv (2 ^ (min (k : Int).toNat IntKind.i64.bits)) = ((a / 2 ^ k : Nat) : Int):=by
 have : min (k : Int).toNat IntKind.i64.bits = k:=by simp only [Int.toNat_natCast,IntKind.bits];omega
 rw [this]
 have h2 : ((2 : Int) ^ k) = ((2 ^ k : Nat) : Int):=by simp
 rw [h2,Int.fdiv_eq_ediv_of_nonneg _ (Int.natCast_nonneg _)];rfl
theorem kw {k : Nat} (hk : k <= 64) : (1 : Int) * 2 ^ (min (k : Int).toNat IntKind.i64.bits) = ((2 ^ k : Nat) : Int):=by
 have : min (k : Int).toNat IntKind.i64.bits = k:=by simp only [Int.toNat_natCast,IntKind.bits];omega
 rw [this];simp
end GA
end
section
namespace GA
open Go Go.RowKit Go.Proofs
def natA (n : Nat) : AV:=.int .i64 n
abbrev nats (xs : List Nat) : List AV:=xs.map natA
theorem lowN {n : Nat} (xs : List Nat) : lowL n (nats xs) = true:=ja (fun _=>rfl) xs
theorem zcX {xs : List Nat} {i : Nat} (h : i < xs.length) (b : List AV) : (nats xs ++ b)[i * 1]? = some (.int .i64 (xs.getD i 0 : Nat)):=by
 rw [Nat.mul_one,List.getElem?_append_left (by simpa using h),List.getElem?_map,List.getElem?_eq_getElem h,List.getD_eq_getElem?_getD,List.getElem?_eq_getElem h];rfl
theorem XArr.nats {xs : List Nat} {i m : Nat} {k : AV -> Prop} (h2 : i < m) (hm : m <= xs.length) (h : k (.pim (.int .i64 (xs.getD i 0 : Nat) :: (GA.nats xs).drop (i * 1 + 1)))) : XArr (.pim (GA.nats xs)) (i : Int) m 1 k:=
 XArr.at _ (by omega) (by omega) (by have:=zcX (xs:=xs) (i:=i) (by omega) [];simpa using this) h
theorem XArr.natsA {xs : List Nat} {b : List AV} {i m : Nat} {k : AV -> Prop} (h2 : i < m) (hm : m <= xs.length) (h : k (.pim (.int .i64 (xs.getD i 0 : Nat) :: (GA.nats xs ++ b).drop (i * 1 + 1)))) : XArr (.pim (GA.nats xs ++ b)) (i : Int) m 1 k:=
 XArr.at _ (by omega) (by omega) (zcX (xs:=xs) (i:=i) (by omega) b) h
structure Dk where
 l : Ld
 hv : List Nat
 nd : List Nat
def zy (d : Dk) : List AV:=.int .i64 d.l.bears :: .int .i64 d.l.shrink :: .sl d.l.nls (d.l.sacks.map skA) :: .sl d.l.nla (d.l.apart.map prA) :: .sl d.l.nlw (d.l.wth.map prA) :: (nats d.hv ++ nats d.nd)
theorem zet {n : Nat} (a b : List AV) : lowL n (a ++ b) = (lowL n a && lowL n b):=by
 induction a with | nil=>rfl | cons x a ih=>simp only [List.cons_append,lowL,ih,Bool.and_assoc]
theorem yn {n : Nat} (d : Dk) : lowL n (zy d) = true:=by simp only [zy,lowL,AV.low,yU,kg,zet,lowN];rfl
theorem zbB.desk {d : Dk} {k : List AV -> Prop} (hh : d.hv.length = 512) (h : k (nats d.nd)) : zbB 517 (zy d) k:=by
 have e : zy d = (.int .i64 d.l.bears :: .int .i64 d.l.shrink :: .sl d.l.nls (d.l.sacks.map skA) :: .sl d.l.nla (d.l.apart.map prA) :: .sl d.l.nlw (d.l.wth.map prA) :: nats d.hv) ++ nats d.nd:=rfl
 have l : (.int .i64 d.l.bears :: .int .i64 d.l.shrink :: .sl d.l.nls (d.l.sacks.map skA) :: .sl d.l.nla (d.l.apart.map prA) :: .sl d.l.nlw (d.l.wth.map prA) :: nats d.hv).length = 517:=by simp [hh]
 refine ⟨by rw [e,List.length_append,l];omega,?_⟩
 rw [e,List.drop_left' l];exact h
structure DkOk (d : Dk) : Prop where
 hv : d.hv.length = 512
 nd : d.nd.length = 9
 small : ∀ i,d.nd.getD i 0 < 512
 big : ∀ i,d.hv.getD i 0 < 1000000
theorem whole1_c (d : Dk) (ok : DkOk d) (i set : Nat) (h2 : i < 9) (hs : set < 512) :
  Comp Tryz.prog 118 [.int .i64 i,.pim [.pim (zy d)],.pim [.int .i64 set]] (.bool (diff (d.nd.getD i 0) set == 0)):=by
 refine Comp.body (T:=tab) (res:=[.tmp 4]) zb [] Tryz.func118 rfl (by kernel_rfl) Tryz.ntmps118 rfl (by simp only [List.length_cons,List.length_nil];decide) (by simp only [lowL,AV.low,yn];rfl) ?_;conv=>whnf
 have g1:=ok.hv
 have g2:=ok.nd
 apply Walk.drawX zb zk [] [] (fun _=>[]) [_,_,_,_,_,_,_,_,_,_] (by kernel_rfl) rfl
 ·skip
  repeat' first|(with_reducible apply XAnd.mk)|((first|(with_reducible apply Chk.go)|(with_reducible apply ChkA.go));conv=>whnf)|(exact zg.mk rfl rfl)|(with_reducible exact trivial)|((first|(with_reducible refine zbB.desk (by assumption) ?_)|((with_reducible refine XArr.nats ?_ ?_ ?_);omega;omega));conv=>whnf)|fail
 ·skip
  repeat' first|(with_reducible apply XAnd.mk)|((first|(with_reducible apply ChkF.go)|(with_reducible apply ChkB.go));conv=>whnf)|(with_reducible exact trivial)|fail
 ·conv=>whnf
  skip
  refine XOut.bool ?_
  have:=ok.small i
  rw [ke (by omega) (by omega),Bool.eq_iff_iff];simp
theorem zdb {set : Nat} {p : Int} (h1 : 0 <= p) (h2 : p <= 62) (hs : set < 512) : iand .i64 ((set : Int).fdiv (2 ^ min p.toNat IntKind.i64.bits)) 1 = ((set / 2 ^ p.toNat % 2 : Nat) : Int):=by
 obtain ⟨k,rfl⟩:=Int.eq_ofNat_of_zero_le h1
 rw [shr_nat (by omega)]
 have : set / 2 ^ k <= set:=Nat.div_le_self ..
 have:=w7 (a:=set / 2 ^ k) (b:=1) (by omega) (by omega)
 rw [Nat.and_one_is_mod] at this
 exact this
def kV (set : Nat) (p : Int) : Bool:=set / 2 ^ p.toNat % 2 == 1
theorem whole2_c (p : Int × Int) (set : Nat) (h1 : 0 <= p.1) (h2 : p.1 <= 62) (h3 : 0 <= p.2) (h4 : p.2 <= 62) (hs : set < 512) :
  Comp Tryz.prog 119 [prA p,.pim [.int .i64 set]] (.bool (!kV set p.1 || !kV set p.2)):=by
 refine Comp.body (T:=tab) (res:=[.tmp 3]) zb [] Tryz.func119 rfl (by kernel_rfl) Tryz.ntmps119 rfl (by simp only [List.length_cons,List.length_nil];decide) (by rfl) ?_;conv=>whnf
 have e1:=zdb h1 h2 hs
 have e2:=zdb h3 h4 hs
 repeat' first|((first|(with_reducible apply XBr.tt)|(with_reducible apply XBr.ff));conv=>whnf)|((with_reducible apply XBr.beq) <;> (intro h;first|(exfalso;omega)|(conv=>whnf)))|((with_reducible refine zj.mk ?_ ?_);(first | omega | rfl | decide|exact ⟨rfl,by decide,rfl⟩|exact zz _|exact zp _|exact zq _|(unfold Room;constructor <;> ((try simp) <;> omega))|exact ⟨rfl,by simp only [List.length_map],by unfold Room;constructor <;> ((try simp) <;> omega)⟩|exact ⟨by omega,by omega,by unfold Room;constructor <;> ((try simp) <;> omega)⟩);conv=>whnf)|((first|(with_reducible apply XArr.pim0)|(with_reducible apply XArr.pim1));conv=>whnf)|fail
 ·rw [e1] at h
  refine XOut.bool ?_
  have : kV set p.1 = false:=by unfold kV;simp;omega
  simp [this]
 ·rw [e1] at h
  refine XOut.bool ?_
  rw [e2]
  have : kV set p.1 = true:=by unfold kV;simp;omega
  have hb : (((set / 2 ^ p.2.toNat % 2 : Nat) : Int) == 0) = !(set / 2 ^ p.2.toNat % 2 == 1):=by
   rcases Nat.mod_two_eq_zero_or_one (set / 2 ^ p.2.toNat) with h | h <;> rw [h] <;> rfl
  rw [this,hb];simp [kV]
def v1 (d : Dk) (set : Nat) : Bool:=((bits set).all fun i=>diff (d.nd.getD i.toNat 0) set == 0) && (d.l.apart.all fun p=>!kV set p.1 || !kV set p.2)
theorem ki : ∀ (f i s k : Nat),s < 2 ^ k -> ∀ x ∈ ym f i s,(i : Int) <= x /\ x < (i + k : Nat)
 | 0,_,_,_,_,x,hx=>by simp [ym] at hx
 | f + 1,i,s,k,hs,x,hx=>by
   unfold ym at hx
   split at hx
   ·simp at hx
   ·rename_i h0
    cases k with
    | zero=>simp at hs;omega
    | succ k =>
      have ih:=ki f (i + 1) (s / 2) k (by rw [Nat.pow_succ] at hs;omega)
      split at hx
      ·rcases List.mem_cons.1 hx with rfl | hx
       ·omega
       ·have:=ih x hx;omega
      ·have:=ih x hx;omega
theorem zeG {s : Nat} (hs : s < 512) : ∀ x ∈ bits s,0 <= x /\ x < 9:=fun x hx=>by have:=ki 62 0 s 9 (by omega) x hx;omega
theorem yw (s : Nat) : (bits s).length <= 62:=wT ..
theorem whole_c (d : Dk) (ok : DkOk d) (set : Nat) (hs : set < 512) (ha : d.l.apart.length <= 1000) (hp : ∀ p ∈ d.l.apart,0 <= p.1 /\ p.1 <= 62 /\ 0 <= p.2 /\ p.2 <= 62) : Comp Tryz.prog 109 [.pim (zy d),.int .i64 set] (.bool (v1 d set)):=by
 refine Comp.body (T:=tab) (res:=[.tmp 4]) zb [] Tryz.func109 rfl (by kernel_rfl) Tryz.ntmps109 rfl (by simp only [List.length_cons,List.length_nil];decide) (by simp only [lowL,AV.low,yn];rfl) ?_;conv=>whnf
 refine za.ret (wK set (by omega)) ?_
 conv=>whnf
 refine za.ret (wg _ (bits set) 118 [.pim [.pim (zy d)],.pim [.int .i64 set]] (fun i=>diff (d.nd.getD i.toNat 0) set == 0) (by simp only [lowL,AV.low,yn];rfl) (by have:=yw set;omega) fun x hx=>?_) ?_
 ·obtain ⟨h1,h2⟩:=zeG hs x hx
  obtain ⟨k,rfl⟩:=Int.eq_ofNat_of_zero_le h1
  exact whole1_c d ok k set (by omega) hs
 conv=>whnf
 repeat' first|((first|(with_reducible apply XBr.tt)|(with_reducible apply XBr.ff));conv=>whnf)|((with_reducible apply XBr.mk') <;> (intro h;conv=>whnf))|fail
 ·refine za.ret (vy _ d.l.apart 119 [.pim [.int .i64 set]] (fun p=>!kV set p.1 || !kV set p.2) rfl (by omega) fun p hm=>?_) ?_
  ·obtain ⟨h1,h2,h3,h4⟩:=hp p hm
   exact whole2_c p set h1 h2 h3 h4 hs
  conv=>whnf
  repeat' first|((with_reducible apply XBr.tt);conv=>whnf)|fail
  refine XOut.bool ?_
  unfold v1;rw [h];simp
 ·refine XOut.bool ?_
  unfold v1;rw [h];simp
end GA
end
section
namespace GA
open Go Go.RowKit Go.Proofs
structure zdn (d : Dk) : Prop extends DkOk d where
 al : d.l.apart.length <= 1000
 ap : ∀ p ∈ d.l.apart,0 <= p.1 /\ p.1 <= 62 /\ 0 <= p.2 /\ p.2 <= 62
def zn (d : Dk) (set : Nat) : Bool:=decide ((d.hv.getD set 0 : Nat) <= d.l.bears) && v1 d set
theorem vJ (d : Dk) (ok : zdn d) (set : Nat) (hs : set < 512) : Comp Tryz.prog 87 [.pim (zy d),.int .i64 set] (.bool (zn d set)):=by
 refine Comp.body (T:=tab) (res:=[.tmp 4]) zb [] Tryz.func87 rfl (by kernel_rfl) Tryz.ntmps87 rfl (by simp only [List.length_cons,List.length_nil];decide) (by simp only [lowL,AV.low,yn];rfl) ?_;conv=>whnf
 have g1:=ok.hv
 have g2:=ok.nd
 by_cases hc : ((d.hv.getD set 0 : Nat) : Int) <= d.l.bears
 ·apply Walk.drawX zb zk [] [] (fun _=>[]) [_,_,_,_,_,_,_,_,_,_,_,.bool true,.bool true,_,_,_,_,_] (by kernel_rfl) rfl
  ·skip
   repeat' first|((with_reducible apply XBr.tt);conv=>whnf)|(with_reducible apply XAnd.mk)|((first|(with_reducible apply Chk.go)|(with_reducible apply ChkA.go));conv=>whnf)|(exact zg.mk rfl rfl)|(with_reducible exact trivial)|(((with_reducible refine XArr.natsA ?_ ?_ ?_);omega;omega);conv=>whnf)|(exact zg.mk (by rw [decide_eq_true hc]) rfl)|(refine za.ret (whole_c d ok.toDkOk set hs ok.al ok.ap) ?_;conv=>whnf)|fail
  ·skip
   repeat' first|(with_reducible apply XAnd.mk)|((first|(with_reducible apply ChkF.go)|(with_reducible apply ChkB.go));conv=>whnf)|(with_reducible exact trivial)|fail
  ·conv=>whnf
   skip
   refine XOut.bool ?_
   unfold zn;rw [decide_eq_true hc];rfl
 ·apply Walk.drawX zb zk [] [] (fun _=>[]) [_,_,_,_,_,_,_,_,_,_,_,.bool false,.bool false,_,_,_,_,_] (by kernel_rfl) rfl
  ·skip
   repeat' first|((with_reducible apply XBr.ff);conv=>whnf)|(with_reducible apply XAnd.mk)|((first|(with_reducible apply Chk.go)|(with_reducible apply ChkA.go));conv=>whnf)|(exact zg.mk rfl rfl)|(with_reducible exact trivial)|(((with_reducible refine XArr.natsA ?_ ?_ ?_);omega;omega);conv=>whnf)|(exact zg.mk (by rw [decide_eq_false hc]) rfl)|fail
  ·skip
   repeat' first|(with_reducible apply XAnd.mk)|((first|(with_reducible apply ChkF.go)|(with_reducible apply ChkB.go));conv=>whnf)|(with_reducible exact trivial)|fail
  ·conv=>whnf
   skip
   refine XOut.bool ?_
   unfold zn;rw [decide_eq_false hc];rfl
end GA
end
section
namespace GA
open Go Go.RowKit
section
variable {P : Program} {T : Tab} {N : Nat} {ρ : Option Nat} {D : List Nat} {σ : St} {H : List Blk} {Q : Post}
theorem AWp.loopG {c : Code} {G : Type} (st : G -> St) (hp : G -> List Blk) (μ : G -> Nat) (g0 : G) (hσ : ∀ t r,st g0 t = some r -> σ t = some r) (hH : hp g0 = H) (hD : D = [])
  (hlow : ∀ g,(∀ x ∈ hp g,x.low (hp g).length = true) /\ ∀ t r,st g t = some r -> r.low (hp g).length = true) (hlen : ∀ g,(hp g0).length <= (hp g).length)
  (round : ∀ g,AWp P N ρ c (yW (fun D' σ' H'=>D' = D /\ ∃ g' l,μ g' < μ g /\ hp g' ++ l = H' /\ ∀ t r,st g' t = some r -> σ' t = some r) Q) D (st g) (hp g)) : AWp P N ρ (.loop c) Q D σ H:=by
 intro E h β a w s
 subst hH;subst hD
 let I : G -> Act -> World -> Prop:=fun g a w=>∃ h' β',Ext h β (hp g0) h' β' (hp g) /\ yS P E N h' β' [] (st g) (hp g) a w
 have least : ∀ a w,(∃ g,I g a w) -> ∃ n,(∃ g,I g a w /\ μ g = n) /\ ∀ m,m < n -> ¬ ∃ g,I g a w /\ μ g = m:=
  fun a w ⟨g,hg⟩=>kq ⟨μ g,g,hg,rfl⟩
 classical
 let M : Act -> World -> Nat:=fun a w=>if e : ∃ g,I g a w then Classical.choose (least a w e) else 0
 have hM : ∀ a w (e : ∃ g,I g a w),(∃ g,I g a w /\ μ g = M a w) /\ ∀ g,I g a w -> M a w <= μ g:=by
  intro a w e
  have hc:=Classical.choose_spec (least a w e)
  have hm : M a w = Classical.choose (least a w e):=by simp only [M,dif_pos e]
  rw [hm]
  refine ⟨hc.1,fun g hg=>?_⟩
  rcases Nat.lt_or_ge (μ g) (Classical.choose (least a w e)) with hlt | hge
  ·exact absurd ⟨g,hg,rfl⟩ (hc.2 _ hlt)
  ·exact hge
 refine wpIn_loop (fun a w=>∃ g,I g a w) M ⟨g0,h,β,Ext.refl _ _ _,s.sr,fun t r e=>s.fits t r (hσ t r e),s.size,s.df⟩ ?_
 intro a' w' hI
 obtain ⟨⟨g,hg,hmu⟩,_⟩:=hM a' w' hI
 obtain ⟨h',β',X,s'⟩:=hg
 refine wpIn_mono (round g E h' β' a' w' s') ?_
 rintro e a'' w'' ⟨D'',σ'',H'',h'',β'',q,X',s''⟩
 cases e with
 | normal =>
   obtain ⟨rfl,g',l,hlt,rfl,hsub⟩:=q
   have hI' : I g' a'' w'':=by
    refine ⟨h'',β'',(X.trans X').cut (hlen g'),s''.sr.cut (hlow g').1,fun t r e=>?_,s''.size,s''.df.any⟩
    obtain ⟨v,h1,h2⟩:=s''.fits t r (hsub t r e)
    exact ⟨v,h1,h2.cut ((hlow g').2 t r e)⟩
   refine ⟨⟨g',hI'⟩,?_⟩
   have:=(hM a'' w'' ⟨g',hI'⟩).2 g' hI'
   omega
 | _=>exact ⟨D'',σ'',H'',h'',β'',q,X.trans X',s''⟩
structure zw {G : Type} (I : G -> Prop) (L : G -> List (Nat × AV)) (hp : G -> List Blk) (μ : G -> Nat) (g : G) (D' : List Nat) (σ' : St) (H' : List Blk) : Prop where
 d : D' = []
 o : ∃ g' l,I g' /\ μ g' < μ g /\ hp g' ++ l = H' /\ SubX (L g') σ'
theorem Walk.loopG {c : Code} {G : Type} (ok : zA P T) (own : List Nat) (I : G -> Prop) (L : G -> List (Nat × AV)) (hp : G -> List Blk) (μ : G -> Nat) (g0 : G) (h0 : I g0) (hH : hp g0 = H) (hs : SubX (L g0) σ)
  (hlow : ∀ g,I g -> (∀ x ∈ hp g,x.low (hp g).length = true) /\ ∀ p ∈ L g,p.2.low (hp g).length = true) (hlen : ∀ g,I g -> (hp g0).length <= (hp g).length)
  (round : ∀ g,I g -> XRun P T N ρ own c (yW (zw I L hp μ g) Q) [] (stX (L g)) (hp g)) : Walk P N ρ (.loop c) Q [] σ H:=by
 constructor
 have hst : ∀ (l : List (Nat × AV)) t r,stX l t = some r -> (t,r) ∈ l:=by
  intro l;induction l with
  | nil=>intro t r h;cases h
  | cons p l ih =>
    obtain ⟨u,x⟩:=p
    intro t r h;simp only [stX,yZ,upd] at h
    split at h
    ·rename_i e;cases h;subst e;exact List.mem_cons_self
    ·exact List.mem_cons_of_mem _ (ih t r h)
 refine AWp.loopG (G:={g : G // I g}) (fun g=>stX (L g.1)) (fun g=>hp g.1) (fun g=>μ g.1) ⟨g0,h0⟩ (yN hs) hH rfl (fun g=>⟨(hlow g.1 g.2).1,fun t r e=>(hlow g.1 g.2).2 (t,r) (hst _ _ _ e)⟩) (fun g=>hlen g.1 g.2) fun g=>?_
 refine (XRun.sound ok (round g.1 g.2)).mono fun e D' σ' H' q=>?_
 cases e with
 | normal=>obtain ⟨h1,g',l,h2,h3,h4,h5⟩:=q;exact ⟨h1,⟨g',h2⟩,l,h3,h4,yN h5⟩
 | _=>exact q
theorem zw.go {G : Type} {I : G -> Prop} {L : G -> List (Nat × AV)} {hp : G -> List Blk} {μ : G -> Nat} {g : G} (g' : G) (l : List Blk) (h1 : I g') (h2 : μ g' < μ g) (h3 : hp g' ++ l = H) (h4 : SubX (L g') σ) : zw I L hp μ g [] σ H:=⟨rfl,g',l,h1,h2,h3,h4⟩
end
end GA
end
