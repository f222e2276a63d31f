/- Part 4 of a proof: Abs36, Abs37, Abs38, Abs39, Abs40, Abs41, Abs43, Abs45, Abs47, Abs48, Abs49, K1, D28, FB, F0, F1, F8, F2, F4, F3, F5, F6, F9, F10. -/
import Derived.Test.YtdeocemmlagnhaaGreatP3
import Derived.Test.YtdeocemmlagnhaaGreatRows
set_option linter.unusedVariables false
set_option linter.unusedSimpArgs false
set_option maxRecDepth 8000
section
namespace GA
open Go Go.RowKit
structure zq (A : Prop) : Prop where
 o : A
def hsU (H : List Blk) : List Bool -> List Blk:=fun _=>H
section
variable {P : Program} {T : Tab} {N : Nat} {ρ : Option Nat} {D : List Nat} {σ : St} {H : List Blk} {Q : Post}
theorem SubX.app : ∀ {K L : List (Nat × AV)} {σ : St},SubX K σ -> SubX L σ -> SubX (K ++ L) σ
 | [],_,_,_,h=>h
 | (_,_) :: _,_,_,h,h2=>⟨h.1,SubX.app h.2 h2⟩
theorem Walk.drawN {ops : List Oper} {id : Nat} (ok : zH P T) (hm : P.follows .mixedOrders = true) (own eff : List Nat) (HS : List Bool -> List Blk) (R : List AV) (hs : Region.lexB .any ops.toArray = true) (hH : HS (eff.map fun _=>false) = H)
  (hA : ChkA P T N own ops eff HS 0 ops R σ) (hB : ChkB P T N own ops eff HS R σ (allF eff.length)) (hk : zq (Q .normal D (fC N ops R σ) (HS (eff.map fun j=>Nat.blt j ops.length)))) : Walk P N ρ (.region id ops.toArray true) Q D σ H:=
 Walk.drawX ok hm own eff HS R hs hH hA hB hk.o
theorem Walk.loopK {c : Code} {G : Type} (ok : zH P T) (own : List Nat) (K : List (Nat × AV)) (hK : SubX K σ) (I : G -> Prop) (L : G -> List (Nat × AV)) (hp : G -> List Blk) (μ : G -> Nat) (g0 : G) (h0 : I g0) (hH : hp g0 = H) (hs : SubX (L g0) σ)
  (round : ∀ g,I g -> XRun P T N ρ own c (yX (zj I (fun g=>K ++ L g) hp μ g D) Q) D (stX (K ++ L g)) (hp g)) : Walk P N ρ (.loop c) Q D σ H:=
 Walk.loop ok own I (fun g=>K ++ L g) hp μ g0 h0 hH (hK.app hs) round
theorem Walk.loopGK {c : Code} {G : Type} (ok : zH P T) (own : List Nat) (K : List (Nat × AV)) (hK : SubX K σ) (I : G -> Prop) (L : G -> List (Nat × AV)) (hp : G -> List Blk) (μ : G -> Nat) (g0 : G) (h0 : I g0) (hH : hp g0 = H) (hs : SubX (L g0) σ)
  (hlow : ∀ g,I g -> (∀ x ∈ hp g,x.low (hp g).length = true) /\ ∀ p ∈ K ++ L g,p.2.low (hp g).length = true) (hlen : ∀ g,I g -> (hp g0).length <= (hp g).length)
  (round : ∀ g,I g -> XRun P T N ρ own c (yX (zl I (fun g=>K ++ L g) hp μ g) Q) [] (stX (K ++ L g)) (hp g)) : Walk P N ρ (.loop c) Q [] σ H:=
 Walk.loopG ok own I (fun g=>K ++ L g) hp μ g0 h0 hH (hK.app hs) hlow hlen round
end
section
variable {α : Type}
def vecF (W : Nat) (F : Nat -> α) : List α:=if h : W = 0 then [] else vecF (W - 1) F ++ [F (W - 1)]
 termination_by W
theorem zL (F : Nat -> α) : ∀ W,vecF W F = (List.range W).map F
 | 0=>by rw [vecF];rfl
 | n + 1=>by rw [vecF,dif_neg (by omega),Nat.add_sub_cancel,zL F n,List.range_succ,List.map_append];rfl
def updV (F : Nat -> α) (j : Nat) (v : α) : Nat -> α:=fun j'=>if j' = j then v else F j'
theorem zx (W : Nat) (F : Nat -> α) : (vecF W F).length = W:=by rw [zL];simp
theorem yg (W : Nat) (F : Nat -> α) (i : Nat) : (vecF W F)[i]? = if i < W then some (F i) else none:=by
 rw [zL,List.getElem?_map]
 by_cases h : i < W
 ·rw [List.getElem?_range h,if_pos h];rfl
 ·rw [List.getElem?_eq_none (by simpa using h),if_neg h];rfl
theorem kv {W : Nat} {F : Nat -> α} {i : Nat} (d : α) (h : i < W) : (vecF W F).getD i d = F i:=by rw [List.getD_eq_getElem?_getD,yg,if_pos h];rfl
theorem zB {W : Nat} {F G : Nat -> α} (h : ∀ i,i < W -> F i = G i) : vecF W F = vecF W G:=by
 apply List.ext_getElem?;intro i
 rw [yg,yg]
 by_cases h1 : i < W
 ·rw [if_pos h1,if_pos h1,h i h1]
 ·rw [if_neg h1,if_neg h1]
theorem yA (W : Nat) (F : Nat -> α) (j : Nat) (v : α) : (vecF W F).set j v = vecF W (updV F j v):=by
 apply List.ext_getElem?;intro i
 rw [List.getElem?_set,yg,yg,zx]
 unfold updV
 by_cases h1 : j = i
 ·subst h1;rw [if_pos rfl]
  by_cases h2 : j < W
  ·rw [if_pos h2,if_pos h2,if_pos rfl]
  ·rw [if_neg h2,if_neg h2]
 ·rw [if_neg h1]
  by_cases h2 : i < W
  ·rw [if_pos h2,if_pos h2,if_neg (fun e=>h1 e.symm)]
  ·rw [if_neg h2,if_neg h2]
theorem yd {W : Nat} {F : Nat -> α} {x : α} : x ∈ vecF W F ↔ ∃ i,i < W /\ F i = x:=by rw [zL];simp
theorem yz (W : Nat) (v : α) : vecF W (fun _=>v) = List.replicate W v:=by
 apply List.ext_getElem?;intro i
 rw [yg,List.getElem?_replicate]
variable {f : α -> AV}
theorem fL {W : Nat} {F : Nat -> α} {j : Nat} (h : j < W) : ((vecF W F).map f)[j]? = some (f (F j)):=by rw [List.getElem?_map,yg,if_pos h];rfl
theorem vh {o : Nat} {k : List AV -> Prop} {W : Nat} {F : Nat -> α} (j : Nat) (ho : o = j) (hj : j < W) (h : k (f (F j) :: ((vecF W F).map f).drop (j + 1))) : xdrop o ((vecF W F).map f) k:=by
 subst ho;exact zcr _ (fL hj) h
theorem zc2 {o : Nat} {k : List AV -> Prop} {W : Nat} {F : Nat -> α} (v : α) (j : Nat) (ho : o = j) (hj : j < W) (h : k ((vecF W (updV F j v)).map f)) : xspl ((vecF W F).map f) o [f v] k:=by
 subst ho
 have gen : ∀ (c : List AV) (o : Nat) (v : AV) (k : List AV -> Prop),o < c.length -> k (c.set o v) -> xspl c o [v] k:=by
  intro c;induction c with
  | nil=>intro o v k h _;simp at h
  | cons x c ih =>
    intro o v k h hk
    cases o with
    | zero =>
      show xspl c 0 [] fun l=>k (v :: l)
      cases c <;> exact hk
    | succ o=>exact ih o v (fun l=>k (x :: l)) (by simpa using h) hk
 refine gen _ _ _ _ (by rw [List.length_map,zx];exact hj) ?_
 rw [<- List.map_set,yA];exact h
theorem zbM {n W : Nat} {F : Nat -> α} (hf : ∀ x,(f x).low n = true) : lowL n ((vecF W F).map f) = true:=yr hf _
end
end GA
end
section
namespace GA
open Go Go.RowKit
section
variable {P : Program} {N : Nat} {ρ : Option Nat} {H : List Blk} {σ : St} {D : List Nat}
theorem zV : ∀ {els : List AV},(∀ x ∈ els,x.one = true) -> flat els = els
 | [],_=>rfl
 | x :: l,h=>by
   have h1:=h x List.mem_cons_self
   have h2:=zV (els:=l) fun y hy=>h y (List.mem_cons_of_mem _ hy)
   have h3 : x.cells = [x]:=by cases x <;> first | rfl | cases h1
   show x.cells ++ flat l = _
   rw [h3,h2];rfl
theorem vu {x : AV} (h : x.one = true) : x.cells = [x]:=by cases x <;> first | rfl | cases h
theorem Walk.freezeRow {c : Code} {Q : Post} (j e i n : Nat) {t t' : TypeId} {nl nl' : Bool} {els ys : List AV} (hj : lget H j = some (.grow t nl els)) (hone : ∀ x ∈ els,x.one = true) (he : els[e]? = some (.gr i n)) (hi : lget H i = some (.grow t' nl' ys)) (hij : i ≠ j) (hn : ys.length = n)
  (x : Walk P N ρ c Q D σ ((H.set i .dead).set j (.grow t nl (els.set e (.sl nl' ys))))) : Walk P N ρ c Q D σ H:=by
 constructor
 intro E h β a w s
 rw [zo] at hi hj
 obtain ⟨h',s1,X1,hfz⟩:=s.sr.freeze hi
 have hj1 : (H.set i .dead)[j]? = some (.grow t nl els):=by rw [List.getElem?_set_ne hij];exact hj
 have hlt:=(List.getElem?_eq_some_iff.1 he).1
 have hone' : ∀ x ∈ els.set e (.sl nl' ys),x.one = true:=fun x hx=>by
  rcases List.mem_or_eq_of_mem_set hx with hx | rfl
  ·exact hone x hx
  ·rfl
 obtain ⟨s2,X2⟩:=s1.modify (β':=β) (w':=w) (x':=.grow t nl (els.set e (.sl nl' ys))) hj1 (fun _ _=>rfl) (.inr ⟨_,_,rfl,by rw [List.length_set];exact Nat.le_refl _,fun _=>rfl⟩) s1.env (fun _ _ _=>rfl) (fun b e=>.inl (by unfold blkOf;rw [hj1];exact e)) (fun X=>by
  rcases s.sr.blk j _ hj with ⟨_,h0,_⟩ | ⟨_,h0,_⟩ | ⟨h0,b,cap,c,h1,h2,h3,h4,h5,h6,h7,h8,h9,us,h10,h11⟩
  ·subst h0;simp at hlt
  ·subst h0;simp at hlt
  ·refine .inr (.inr ⟨h0,b,cap,c,by rw [List.length_set];exact h1,h2,h3,by rw [List.length_set];exact h4,h5,h6,h7,fun y hy=>?_,fun y hy=>?_,us,fun k y ek=>?_,fun k y ek=>?_⟩)
   ·rw [vu (hone' y hy)]
    have:=h8 _ (List.mem_of_getElem? he)
    exact this
   ·rw [zV hone'] at hy;exact hone' y hy
   ·rw [zV hone'] at ek
    rw [zV hone] at h10
    by_cases hke : e = k
    ·subst hke;exact h10 e _ he
    ·rw [List.getElem?_set_ne hke] at ek;exact h10 k y ek
   ·rw [zV hone'] at ek
    rw [zV hone] at h11
    by_cases hke : e = k
    ·subst hke
     rw [List.getElem?_set_self hlt] at ek;cases ek
     exact vO s.sr hi hn (h11 e _ he) (X1.trans X) hfz
    ·rw [List.getElem?_set_ne hke] at ek;exact (X1.trans X).rep (h11 k y ek))
 exact wpIn_mono (x.o E h' _ a w ⟨s2,fun u r e=>let ⟨v,h1,h2⟩:=s.fits u r e;⟨v,h1,(X1.trans X2).rep h2⟩,s.size,s.df.ext (X1.trans X2)⟩) fun _ _ _=>Conc.ext (X1.trans X2)
theorem Walk.nilRowIn {c : Code} {Q : Post} (j e : Nat) (te : TypeId) {t : TypeId} {nl : Bool} {els : List AV} (hj : lget H j = some (.grow t nl els)) (hone : ∀ x ∈ els,x.one = true) (he : els[e]? = some (.sl true []))
  (x : Walk P N ρ c Q D σ (H.set j (.grow t nl (els.set e (.gr H.length 0))) ++ [.grow te true []])) : Walk P N ρ c Q D σ H:=by
 constructor
 intro E h β a w s
 rw [zo] at hj
 have hjl:=(List.getElem?_eq_some_iff.1 hj).1
 have hlt:=(List.getElem?_eq_some_iff.1 he).1
 obtain ⟨s1,X1⟩:=s.sr.push (w':=w) s.sr.env (fun _ _=>rfl) (.slice none 0 0) (.grow te true []) (by intro b hb;simp [anchor] at hb) (fun _=>.inl ⟨rfl,rfl,by simp [upb]⟩)
 have hj1 : (H ++ [Blk.grow te true []])[j]? = some (.grow t nl els):=by rw [List.getElem?_append_left hjl];exact hj
 have hone' : ∀ x ∈ els.set e (.gr H.length 0),x.one = true:=fun x hx=>by
  rcases List.mem_or_eq_of_mem_set hx with hx | rfl
  ·exact hone x hx
  ·rfl
 obtain ⟨s2,X2⟩:=s1.modify (β':=upb β H.length (.slice none 0 0)) (w':=w) (x':=.grow t nl (els.set e (.gr H.length 0))) hj1 (fun _ _=>rfl) (.inr ⟨_,_,rfl,by rw [List.length_set];exact Nat.le_refl _,fun _=>rfl⟩) s1.env (fun _ _ _=>rfl) (fun b e=>.inl (by unfold blkOf;rw [hj1];exact e)) (fun X=>by
  rcases s1.blk j _ hj1 with ⟨_,h0,_⟩ | ⟨_,h0,_⟩ | ⟨h0,b,cap,c,h1,h2,h3,h4,h5,h6,h7,h8,h9,us,h10,h11⟩
  ·subst h0;simp at hlt
  ·subst h0;simp at hlt
  ·refine .inr (.inr ⟨h0,b,cap,c,by rw [List.length_set];exact h1,h2,h3,by rw [List.length_set];exact h4,h5,h6,h7,fun y hy=>?_,fun y hy=>?_,us,fun k y ek=>?_,fun k y ek=>?_⟩)
   ·rw [vu (hone' y hy)]
    have:=h8 _ (List.mem_of_getElem? he)
    exact this
   ·rw [zV hone'] at hy;exact hone' y hy
   ·rw [zV hone'] at ek
    rw [zV hone] at h10
    by_cases hke : e = k
    ·subst hke;exact h10 e _ he
    ·rw [List.getElem?_set_ne hke] at ek;exact h10 k y ek
   ·rw [zV hone'] at ek
    rw [zV hone] at h11
    by_cases hke : e = k
    ·subst hke
     rw [List.getElem?_set_self hlt] at ek;cases ek
     have h12:=h11 e _ he
     cases hu : us e <;> rw [hu] at h12 <;> cases h12
     refine .gr rfl ⟨_,by rw [List.getElem?_set_ne (by omega),List.getElem?_append_right (Nat.le_refl _),Nat.sub_self];rfl,rfl⟩ fun t' nl els e=>?_
     rw [List.getElem?_set_ne (by omega),List.getElem?_append_right (Nat.le_refl _),Nat.sub_self] at e
     simp at e;obtain ⟨_,_,rfl⟩:=e
     exact ⟨Nat.le_refl _,fun _=>by simp [upb]⟩
    ·rw [List.getElem?_set_ne hke] at ek;exact X.rep (h11 k y ek))
 rw [List.set_append_left _ _ hjl] at s2 X2
 exact wpIn_mono (x.o E h _ a w ⟨s2,fun u r e=>let ⟨v,h1,h2⟩:=s.fits u r e;⟨v,h1,(X1.trans X2).rep h2⟩,s.size,s.df.ext (X1.trans X2)⟩) fun _ _ _=>Conc.ext (X1.trans X2)
theorem Walk.run {T : Tab} {c : Code} {Q : Post} (ok : zH P T) (own : List Nat) (x : XRun P T N ρ own c Q D σ H) : Walk P N ρ c Q D σ H:=⟨XRun.sound ok x⟩
theorem XGet.set {els : List AV} {n e m : Nat} {x : AV} {k : List AV -> Prop} (he : e = m) (hm : m < els.length) (hn : n = els.length) (h : k x.cells) : XGet (els.set m x) n e k:=by
 subst he
 refine ⟨by rw [List.length_set];exact hn,by omega,?_⟩
 have : (els.set e x).getD e default = x:=by rw [List.getD_eq_getElem?_getD,List.getElem?_set_self hm];rfl
 rw [this];exact h
theorem XPut.set {els : List AV} {n e m : Nat} {x v : AV} {k : List AV -> Prop} (he : e = m) (hm : m < els.length) (hn : n = els.length) (h : k (els.set m v)) : XPut (els.set m x) n e v k:=by
 subst he
 exact ⟨by rw [List.length_set];exact hn,by omega,by rw [List.set_set];exact h⟩
end
end GA
end
section
namespace GA
open Go Go.RowKit
section
variable {P : Program} {N : Nat} {ρ : Option Nat} {H : List Blk} {σ : St} {D : List Nat} {Q : Post}
structure XFrz (u i n : Nat) (σ : St) (H : List Blk) (k : St -> List Blk -> Prop) : Prop where
 o : ∃ t nl els,σ u = some (.gr i n) /\ lget H i = some (.grow t nl els) /\ els.length = n /\ k (updX σ u (.sl nl els)) (H.set i .dead)
theorem XFrz.go {u i n : Nat} {k : St -> List Blk -> Prop} {t : TypeId} {nl : Bool} {els : List AV} (hu : σ u = some (.gr i n)) (hi : lget H i = some (.grow t nl els)) (hn : els.length = n) (x : k (updX σ u (.sl nl els)) (H.set i .dead)) : XFrz u i n σ H k:=⟨t,nl,els,hu,hi,hn,x⟩
def frzQ (u i n : Nat) (Q : Post) : Post
 | .exit id,D,σ,H=>XFrz u i n σ H (Q (.exit id) D)
 | e,D,σ,H=>Q e D σ H
theorem Walk.thenFreeze {c : Code} (u i n : Nat) (x : Walk P N ρ c (frzQ u i n Q) D σ H) : Walk P N ρ c Q D σ H:=by
 constructor
 intro E h β a w s
 refine wpIn_mono (x.o E h β a w s) fun e a' w' hc=>?_
 obtain ⟨D',σ',H',h',β',q,X,s'⟩:=hc
 cases e with
 | exit id =>
   obtain ⟨t,nl,els,hu,hi,hn,q⟩:=q.o
   rw [zo] at hi
   obtain ⟨h'',s1,X1,hfz⟩:=s'.sr.freeze hi
   refine ⟨D',_,_,h'',β',q,X.trans X1,⟨s1,fun t' r e=>?_,s'.size,s'.df.ext X1⟩⟩
   rw [kq] at e;unfold upd at e
   split at e
   ·rename_i hh;subst hh;cases e
    obtain ⟨v,h1,h2⟩:=s'.fits _ _ hu
    exact ⟨v,h1,vO s'.sr hi hn h2 X1 hfz⟩
   ·obtain ⟨v,h1,h2⟩:=s'.fits t' r e
    exact ⟨v,h1,X1.rep h2⟩
 | _=>exact ⟨D',σ',H',h',β',q,X,s'⟩
end
end GA
end
section
namespace GA
open Go Go.RowKit
section
variable {P : Program} {N : Nat} {ρ : Option Nat} {H : List Blk} {σ : St} {D : List Nat} {Q : Post} {E : Env} {h : Nat -> Option Obj} {β : Nat -> Value} {a : Act} {w : World}
theorem zcQ (H1 l : List Blk) (L : List (Nat × AV)) (hlow : ∀ x ∈ H1,x.low H1.length = true) (hs : SubF P H1.length (H1 ++ l) L σ) (s : jW P E N h β D σ (H1 ++ l) a w) :
  ∃ h',Ext h β (H1 ++ l) h' β (H1 ++ l.map fun _=>.dead) /\ jW P E N h' β D (stX L) (H1 ++ l.map fun _=>.dead) a w:=by
 have hd : ∀ (l : List Blk) (i : Nat) x,(l.map fun _=>Blk.dead)[i]? = some x -> x = .dead:=fun l i x e=>by
  rw [List.getElem?_map] at e
  cases hx : l[i]? with
  | none=>rw [hx] at e;cases e
  | some y=>rw [hx] at e;cases e;rfl
 have X : Ext h β (H1 ++ l) (ja H1.length h β (H1 ++ l) w) β (H1 ++ l.map fun _=>.dead):=by
  refine ⟨fun b o e=>qM s.sr e,by simp,fun i x x' e e'=>?_⟩
  by_cases hi : i < H1.length
  ·rw [List.getElem?_append_left hi] at e e'
   rw [e] at e';cases e';exact Blk.to_refl _ _ _
  ·rw [List.getElem?_append_right (by omega)] at e'
   have:=hd _ _ _ e'
   subst this
   cases x <;> first | rfl | trivial|exact .inl rfl
 have s1:=s.sr.allN hlow
 have X1 : Ext (ja H1.length h β (H1 ++ l) w) β H1 (ja H1.length h β (H1 ++ l) w) β (H1 ++ l.map fun _=>.dead):=
  ⟨fun _ _ e=>e,by simp,fun i x x' e e'=>by rw [List.getElem?_append_left (List.getElem?_eq_some_iff.1 e).1,e] at e';cases e';exact Blk.to_refl _ _ _⟩
 have hbo : ∀ i b,blkOf β (H1 ++ l.map fun _=>.dead) i = some b -> blkOf β H1 i = some b:=fun i b e=>by
  have hlt:=(yN e).1
  by_cases hi : i < H1.length
  ·rw [<- e];exact (kg rfl (List.getElem?_append_left hi)).symm
  ·exfalso
   unfold blkOf at e
   cases hx : (H1 ++ l.map fun _=>Blk.dead)[i]? with
   | none=>rw [hx] at e;cases e
   | some x =>
     rw [hx] at e
     rw [List.getElem?_append_right (by omega)] at hx
     have:=hd _ _ _ hx
     subst this;cases e
 have s2 : SR P E (ja H1.length h β (H1 ++ l) w) β (H1 ++ l.map fun _=>.dead) w:=by
  refine s1.grown X1 s1.env s1.imm (fun i x e=>?_) (fun i j b e1 e2=>s1.own i j b (hbo _ _ e1) (hbo _ _ e2)) (fun i b e=>s1.fresh i b (hbo _ _ e)) s1.frm (fun i b e=>s1.fro i b (hbo _ _ e))
  by_cases hi : i < H1.length
  ·rw [List.getElem?_append_left hi] at e;exact .inl ⟨e,rfl,fun _ _=>rfl⟩
  ·rw [List.getElem?_append_right (by omega)] at e
   have:=hd _ _ _ e
   subst this;exact .inr trivial
 refine ⟨_,X,⟨s2,fun t r e=>?_,s.size,s.df.ext X⟩⟩
 obtain ⟨r0,e1,e2⟩:=zb4 hs t r e
 obtain ⟨v,h1,h2⟩:=s.fits t r0 e1
 rcases e2 with e2 | ⟨rfl,e2⟩
 ·exact ⟨v,h1,e2 E h β w s.sr v h2 _⟩
 ·refine ⟨v,h1,X1.rep (Rep.cut (l:=l) ?_ e2)⟩
  have XA : Ext h β (H1 ++ l) (ja H1.length h β (H1 ++ l) w) β (H1 ++ l):=⟨fun b o e=>qM s.sr e,Nat.le_refl _,fun i x x' e e'=>by rw [e] at e';cases e';exact Blk.to_refl _ _ _⟩
  exact XA.rep h2
structure vE (P : Program) (σ : St) (H : List Blk) (k : St -> List Blk -> Prop) : Prop where
 o : ∃ (H1 l : List Blk) (L : List (Nat × AV)),H1 ++ l = H /\ (∀ x ∈ H1,x.low H1.length = true) /\ SubF P H1.length H L σ /\ k (stX L) (H1 ++ l.map fun _=>.dead)
theorem vE.go {k : St -> List Blk -> Prop} (H1 l : List Blk) (L : List (Nat × AV)) (hH : H1 ++ l = H) (hlow : ∀ x ∈ H1,x.low H1.length = true) (hs : SubF P H1.length H L σ) (x : k (stX L) (H1 ++ l.map fun _=>.dead)) : vE P σ H k:=⟨H1,l,L,hH,hlow,hs,x⟩
def keepQ (P : Program) (Q : Post) : Post
 | .exit id,D,σ,H=>vE P σ H (Q (.exit id) D)
 | e,D,σ,H=>Q e D σ H
theorem Walk.thenKeep {c : Code} (x : Walk P N ρ c (keepQ P Q) D σ H) : Walk P N ρ c Q D σ H:=by
 constructor
 intro E h β a w s
 refine wpIn_mono (x.o E h β a w s) fun e a' w' hc=>?_
 obtain ⟨D',σ',H',h',β',q,X,s'⟩:=hc
 cases e with
 | exit id =>
   obtain ⟨H1,l,L,rfl,hlow,hs,q⟩:=q.o
   obtain ⟨h'',X1,s1⟩:=zcQ H1 l L hlow hs s'
   exact ⟨D',_,_,h'',β',q,X.trans X1,s1⟩
 | _=>exact ⟨D',σ',H',h',β',q,X,s'⟩
theorem zdy {h : Nat -> Option Obj} {β : Nat -> Value} {H : List Blk} {w : World} : ja 0 h β H w = hall h β H w:=by
 funext b
 by_cases hx : ∃ i,blkOf β H i = some b
 ·obtain ⟨i,hi⟩:=hx
  rw [hallN_own (Nat.zero_le i) hi]
  unfold hall;rw [if_pos ⟨i,hi⟩]
 ·unfold ja hall
  rw [if_neg hx,if_neg (fun ⟨i,_,h⟩=>hx ⟨i,h⟩)]
theorem Froz.n0 {r r' : AV} (f : Froz P H r r') : FrozN P 0 H r r':=fun E h β w s v hr H1=>by
 rw [zdy]
 exact (f E h β w s v hr).none
theorem zaL.all {r r' : AV} (f : Froz P H r r') : zaL P 0 H r r':=.inl f.n0
end
end GA
end
section
namespace GA
open Go Go.RowKit
section
variable {P : Program} {N : Nat} {ρ : Option Nat} {H : List Blk} {σ : St} {D : List Nat} {Q : Post}
structure XDo (P : Program) (N : Nat) (D : List Nat) (σ : St) (H : List Blk) (K : St -> List Blk -> Prop) : Prop where
 o : ∀ E h β a w,jW P E N h β D σ H a w -> ∃ σ' H' h' β',K σ' H' /\ Ext h β H h' β' H' /\ jW P E N h' β' D σ' H' a w
def doQ (P : Program) (N : Nat) (Q : Post) : Post
 | .exit id,D,σ,H=>XDo P N D σ H (Q (.exit id) D)
 | e,D,σ,H=>Q e D σ H
theorem Walk.thenDo {c : Code} (x : Walk P N ρ c (doQ P N Q) D σ H) : Walk P N ρ c Q D σ H:=by
 constructor
 intro E h β a w s
 refine wpIn_mono (x.o E h β a w s) fun e a' w' hc=>?_
 obtain ⟨D',σ',H',h',β',q,X,s'⟩:=hc
 cases e with
 | exit id =>
   obtain ⟨σ2,H2,h2,β2,q2,X2,s2⟩:=q.o E h' β' a' w' s'
   exact ⟨D',σ2,H2,h2,β2,q2,X.trans X2,s2⟩
 | _=>exact ⟨D',σ',H',h',β',q,X,s'⟩
theorem XDo.run {K : St -> List Blk -> Prop} (x : K σ H) : XDo P N D σ H K:=⟨fun E h β a w s=>⟨σ,H,h,β,x,Ext.refl _ _ _,s⟩⟩
theorem XDo.freezeMap {K : St -> List Blk -> Prop} (j i n : Nat) {es : List (Int × AV)} (es' : List (Int × AV)) {t : TypeId} {nl : Bool} {els : List AV} (hj : lget H j = some (.map es)) (hi : lget H i = some (.grow t nl els)) (hn : els.length = n)
  (hf : FrzE i n nl els es es') (x : XDo P N D σ ((H.set i .dead).set j (.map es')) K) : XDo P N D σ H K:=by
 constructor
 intro E h β a w s
 rw [zo] at hi hj
 have hij : i ≠ j:=by rintro rfl;rw [hi] at hj;cases hj
 obtain ⟨h',s1,X1,hfz⟩:=s.sr.freeze hi
 have hj1 : (H.set i .dead)[j]? = some (.map es):=by rw [List.getElem?_set_ne hij];exact hj
 obtain ⟨s2,X2⟩:=s1.modify (β':=β) (w':=w) (x':=.map es') hj1 (fun _ _=>rfl) (.inr ⟨_,rfl,rfl⟩) s1.env (fun _ _ _=>rfl) (fun b e=>.inl (by unfold blkOf;rw [hj1];exact e)) (fun X=>by
  obtain ⟨q,ents,clock,h1,h2,h3,h4,us,h5⟩:=s.sr.blk j _ hj
  have hl : es'.length = es.length:=by have:=congrArg List.length hf.k;simpa using this
  refine ⟨q,ents,clock,h1,h2,by rw [hf.k];exact h3,by rw [hl];exact h4,us,fun m key y e=>?_⟩
  obtain ⟨x0,e0,hx⟩:=hf.o m key y e
  obtain ⟨hr,born⟩:=h5 m key x0 e0
  refine ⟨?_,born⟩
  rcases hx with rfl | ⟨rfl,rfl⟩
  ·exact (X1.trans X).rep hr
  ·exact vO s.sr hi hn hr (X1.trans X) hfz)
 obtain ⟨σ2,H2,h2,β2,q2,X3,s3⟩:=x.o E h' β a w ⟨s2,fun u r e=>let ⟨v,h1,h2⟩:=s.fits u r e;⟨v,h1,(X1.trans X2).rep h2⟩,s.size,s.df.ext (X1.trans X2)⟩
 exact ⟨σ2,H2,h2,β2,q2,(X1.trans X2).trans X3,s3⟩
theorem Walk.loopGKL {T : Tab} {c : Code} {G : Type} (ok : zH P T) (own : List Nat) (lp : Blk) (K : List (Nat × AV)) (hK : SubX K σ) (I : G -> Prop) (L : G -> List (Nat × AV)) (hp : Blk -> G -> List Blk) (μ : G -> Nat) (g0 : G) (h0 : I g0) (hH : hp lp g0 = H) (hs : SubX (L g0) σ)
  (hlow : ∀ g,I g -> (∀ x ∈ hp lp g,x.low (hp lp g).length = true) /\ ∀ p ∈ K ++ L g,p.2.low (hp lp g).length = true) (hlen : ∀ g,I g -> (hp lp g0).length <= (hp lp g).length)
  (round : ∀ g,I g -> XRun P T N ρ own c (yX (zl I (fun g=>K ++ L g) (hp lp) μ g) Q) [] (stX (K ++ L g)) (hp lp g)) : Walk P N ρ (.loop c) Q [] σ H:=
 Walk.loopGK ok own K hK I L (hp lp) μ g0 h0 hH hs hlow hlen round
theorem Walk.seq {a b : Code} (x : Walk P N ρ a (yX (fun D σ H=>Walk P N ρ b Q D σ H) Q) D σ H) : Walk P N ρ (.seq a b) Q D σ H:=
 ⟨AWp.seq (AWp.mono x.o fun e D σ H q=>by cases e <;> first|exact q.o|exact q)⟩
theorem Comp.bodyW {T : Tab} {f : FuncId} {fn : Func} {c : Code} {rs : List AV} {res : List ResultVar} {r0 : AV} (ok : zH P T) (own : List Nat) (hf : P.funcs[f]? = some fn) (hb : fn.body = some c) (hn : (fn.name == "runtime.NumGoroutine") = false)
  (hN : fn.ntmps = N) (hr : fn.results = res.toArray) (hl : rs.length <= N) (hlo : lowL 0 rs = true) (x : Walk P N none c (XFn P T res r0) [] (argX rs) []) : Comp P f rs r0:=by
 refine ⟨hlo,?_⟩
 obtain ⟨h1,h2⟩:=z7.inl0 (k:=fun r H=>XOut P H r r0) ok own hf hb hn hN hr hl (AWp.mono x.o (fun e D σ H q=>by
  unfold XFn at q
  split at q
  ·exact q
  ·exact q
  ·exact q.elim))
 refine ⟨h1,fun E h β w vs s hrs=>(h2 E h β w vs s hrs).mono ?_⟩
 rintro e w' ⟨r,H',h',β',v,rfl,hk,X,s',hrep⟩
 exact ⟨r0,[],hall h' β' H' w',β',v,rfl,⟨rfl,rfl⟩,⟨fun b o eb=>k7 s' (X.imm b o eb),Nat.le_refl _,by simp⟩,s'.all,hk.o E h' β' w' s' v hrep⟩
end
end GA
end
section
namespace GA
open Go Go.RowKit
section
variable {P : Program} {N : Nat} {ρ : Option Nat} {H : List Blk} {σ : St} {D : List Nat}
theorem XDo.freezeRow {K : St -> List Blk -> Prop} (j e i n : Nat) {t t' : TypeId} {nl nl' : Bool} {els ys : List AV} (hj : lget H j = some (.grow t nl els)) (hone : ∀ x ∈ els,x.one = true) (he : els[e]? = some (.gr i n)) (hi : lget H i = some (.grow t' nl' ys)) (hij : i ≠ j) (hn : ys.length = n)
  (x : XDo P N D σ ((H.set i .dead).set j (.grow t nl (els.set e (.sl nl' ys)))) K) : XDo P N D σ H K:=by
 constructor
 intro E h β a w s
 rw [zo] at hi hj
 obtain ⟨h',s1,X1,hfz⟩:=s.sr.freeze hi
 have hj1 : (H.set i .dead)[j]? = some (.grow t nl els):=by rw [List.getElem?_set_ne hij];exact hj
 have hlt:=(List.getElem?_eq_some_iff.1 he).1
 have hone' : ∀ x ∈ els.set e (.sl nl' ys),x.one = true:=fun x hx=>by
  rcases List.mem_or_eq_of_mem_set hx with hx | rfl
  ·exact hone x hx
  ·rfl
 obtain ⟨s2,X2⟩:=s1.modify (β':=β) (w':=w) (x':=.grow t nl (els.set e (.sl nl' ys))) hj1 (fun _ _=>rfl) (.inr ⟨_,_,rfl,by rw [List.length_set];exact Nat.le_refl _,fun _=>rfl⟩) s1.env (fun _ _ _=>rfl) (fun b e=>.inl (by unfold blkOf;rw [hj1];exact e)) (fun X=>by
  rcases s.sr.blk j _ hj with ⟨_,h0,_⟩ | ⟨_,h0,_⟩ | ⟨h0,b,cap,c,h1,h2,h3,h4,h5,h6,h7,h8,h9,us,h10,h11⟩
  ·subst h0;simp at hlt
  ·subst h0;simp at hlt
  ·refine .inr (.inr ⟨h0,b,cap,c,by rw [List.length_set];exact h1,h2,h3,by rw [List.length_set];exact h4,h5,h6,h7,fun y hy=>?_,fun y hy=>?_,us,fun k y ek=>?_,fun k y ek=>?_⟩)
   ·rw [vu (hone' y hy)]
    have:=h8 _ (List.mem_of_getElem? he)
    exact this
   ·rw [zV hone'] at hy;exact hone' y hy
   ·rw [zV hone'] at ek
    rw [zV hone] at h10
    by_cases hke : e = k
    ·subst hke;exact h10 e _ he
    ·rw [List.getElem?_set_ne hke] at ek;exact h10 k y ek
   ·rw [zV hone'] at ek
    rw [zV hone] at h11
    by_cases hke : e = k
    ·subst hke
     rw [List.getElem?_set_self hlt] at ek;cases ek
     exact vO s.sr hi hn (h11 e _ he) (X1.trans X) hfz
    ·rw [List.getElem?_set_ne hke] at ek;exact (X1.trans X).rep (h11 k y ek))
 obtain ⟨σ2,H2,h2,β2,q2,X3,s3⟩:=x.o E h' β a w ⟨s2,fun u r e=>let ⟨v,h1,h2⟩:=s.fits u r e;⟨v,h1,(X1.trans X2).rep h2⟩,s.size,s.df.ext (X1.trans X2)⟩
 exact ⟨σ2,H2,h2,β2,q2,(X1.trans X2).trans X3,s3⟩
end
end GA
end
section
namespace GA
open Go Go.RowKit
def lexP (A : Array Oper) : Nat -> List Oper -> Bool
 | _,[]=>true
 | k,o :: l=>o.after.toList.all (fun e=>!Region.binds .any e || Nat.blt e.on k) && l.all (fun oj=>oj.after.toList.any (fun e=>Region.binds .any e && Nat.beq e.on k) || o.apart A oj) && lexP A (k + 1) l
theorem zcg {ops : List Oper} : ∀ (l : List Oper) (k : Nat) (listed : Array Bool),(∀ j,l[j]? = ops[k + j]?) -> k + l.length = ops.length -> listed.size = ops.length -> (∀ j,listed.getD j true = decide (j < k \/ ops.length <= j)) -> lexP ops.toArray k l = true -> Region.lexFrom .any ops.toArray l.length k listed = true
 | [],k,listed,hl,hk,hs,hL,h=>by
   rw [List.length_nil,Region.lexFrom,List.isEmpty_iff]
   refine List.eq_nil_iff_forall_not_mem.2 fun j hj=>?_
   obtain ⟨h1,o,ho,-⟩:=mem_ready.1 hj
   have hlt : j < ops.length:=by simpa using (Array.getElem?_eq_some_iff.1 ho).1
   rw [hL,decide_eq_false_iff_not] at h1
   rw [List.length_nil] at hk
   omega
 | o :: l,k,listed,hl,hk,hs,hL,h=>by
   simp only [lexP,Bool.and_eq_true] at h
   obtain ⟨⟨h1,h2⟩,h3⟩:=h
   have h0 : ops[k]? = some o:=by have:=hl 0;simpa using this.symm
   have hkl : k < ops.length:=(List.getElem?_eq_some_iff.1 h0).1
   rw [List.length_cons] at hk
   simp only [List.length_cons,Region.lexFrom,Bool.and_eq_true]
   refine ⟨⟨?_,?_⟩,?_⟩
   ·rw [List.contains_iff_mem]
    refine mem_ready.2 ⟨by rw [hL,decide_eq_false_iff_not];omega,o,by simpa using h0,fun e he hb=>?_⟩
    have h4:=List.all_eq_true.1 h1 e (by simpa using he)
    rw [hb] at h4
    simp only [Bool.not_true,Bool.false_or] at h4
    have h5 : e.on < k:=Nat.blt_eq.mp h4
    have h6:=hL e.on
    rw [decide_eq_true (.inl h5)] at h6
    have h7 : e.on < listed.size:=by omega
    simp only [Array.getD,h7,dite_true] at h6 ⊢
    exact h6
   ·unfold Region.free
    rw [show ops.toArray[k]? = some o by simpa using h0]
    dsimp only
    rw [List.all_eq_true]
    intro j hj
    have hjl : j < ops.length:=by simpa using hj
    by_cases hjk : j < k \/ ops.length <= j
    ·rw [hL,decide_eq_true hjk];simp
    ·by_cases he : j = k
     ·rw [he];simp
     ·have hj2 : l[j - k - 1]? = ops[j]?:=by
       have:=hl (j - k)
       rw [show k + (j - k) = j by omega] at this
       rw [<- this,show j - k = (j - k - 1) + 1 by omega,List.getElem?_cons_succ]
       simp
      have hoj : ops[j]? = some ops[j]:=List.getElem?_eq_getElem hjl
      rw [hoj] at hj2
      have hm:=List.mem_of_getElem? hj2
      have h4:=List.all_eq_true.1 h2 _ hm
      rw [show ops.toArray[j]? = some ops[j] by simp [hjl]]
      dsimp only
      rw [Bool.or_eq_true] at h4
      rcases h4 with h4 | h4
      ·obtain ⟨e,he1,he2⟩:=List.any_eq_true.1 h4
       have h5 : (ops[j].after.any fun e=>Region.binds .any e && e.on == k) = true:=by
        rw [Array.any_eq_true']
        refine ⟨e,by simpa using he1,?_⟩
        rw [Bool.and_eq_true] at he2 ⊢
        exact ⟨he2.1,by rw [beq_iff_eq];exact Nat.eq_of_beq_eq_true he2.2⟩
       rw [h5];simp
      ·rw [h4];simp
   ·refine zcg l (k + 1) _ (fun j=>?_) (by omega) (by simpa using hs) (fun j=>?_) h3
    ·have:=hl (j + 1)
     rw [List.getElem?_cons_succ] at this
     rw [this];congr 1;omega
    ·by_cases hjk : k = j
     ·subst hjk
      have h7 : k < listed.size:=by omega
      rw [decide_eq_true (.inl (by omega))]
      simp [h7]
     ·rw [getD_set_ne true hjk,hL]
      congr 1
      simp only [eq_iff_iff]
      omega
theorem zbQ {ops : List Oper} (h : (Region.noSelect ops.toArray && lexP ops.toArray 0 ops) = true) : Region.lexB .any ops.toArray = true:=by
 rw [Bool.and_eq_true] at h
 simp only [Region.lexB,Bool.and_eq_true]
 refine ⟨h.1,?_⟩
 have:=zcg (ops:=ops) ops 0 (Array.replicate ops.toArray.size false) (fun j=>by rw [Nat.zero_add]) (by simp) (by simp) (fun j=>?_) h.2
 ·simpa using this
 ·by_cases hj : j < ops.length
  ·rw [decide_eq_false (by omega)]
   simp [hj]
  ·rw [decide_eq_true (.inr (by omega))]
   simp [hj]
end GA
end
section
namespace GA
open Go Go.RowKit
def vD : Nat -> Code -> Code
 | n + 1,.seq _ b=>vD n b
 | _,c=>c
def theC : Option Code -> Code
 | some c=>c
 | none=>.skip
theorem Walk.heapX {P : Program} {N : Nat} {r : Option Nat} {c : Code} {Q : Post} {D : List Nat} {σ : St} {H : List Blk} (H' : List Blk) (h : H' = H) (x : Walk P N r c Q D σ H') : Walk P N r c Q D σ H:=h ▸ x
def zbH : Code -> Code
 | .seq (.seq _ (.block _ c)) _=>c
 | c=>c
theorem jN {id : Nat} {K : List Nat -> St -> List Blk -> Prop} {Q : Post} {D : List Nat} {σ : St} {H : List Blk} (h : K D σ H) : fM id (yX K Q) (.exit id) D σ H:=by
 show (match Nat.beq id id with | true=>yX K Q .normal D σ H | false=>yX K Q (.exit id) D σ H)
 rw [Nat.beq_refl];exact h
end GA
end
section
namespace GA
open Go Go.RowKit
section
variable {P : Program} {T : Tab} {N : Nat} {ρ : Option Nat} {D : List Nat} {σ : St} {H : List Blk} {Q : Post}
theorem Walk.weak {c : Code} (L : List (Nat × AV)) (hs : SubX L σ) (x : Walk P N ρ c Q D (stX L) H) : Walk P N ρ c Q D σ H:=⟨AWp.weaken (kR hs) x.o⟩
theorem Walk.loopGKW {c : Code} {G : Type} (K : List (Nat × AV)) (hK : SubX K σ) (I : G -> Prop) (L : G -> List (Nat × AV)) (hp : G -> List Blk) (μ : G -> Nat) (g0 : G) (h0 : I g0) (hH : hp g0 = H) (hs : SubX (L g0) σ)
  (hlow : ∀ g,I g -> (∀ x ∈ hp g,x.low (hp g).length = true) /\ ∀ p ∈ K ++ L g,p.2.low (hp g).length = true) (hlen : ∀ g,I g -> (hp g0).length <= (hp g).length)
  (round : ∀ g,I g -> Walk P N ρ c (yX (zl I (fun g=>K ++ L g) hp μ g) Q) [] (stX (K ++ L g)) (hp g)) : Walk P N ρ (.loop c) Q [] σ H:=by
 constructor
 have hst : ∀ (l : List (Nat × AV)) t r,stX l t = some r -> (t,r) ∈ l:=by
  intro l;induction l with
  | nil=>intro t r h;cases h
  | cons p l ih =>
    obtain ⟨u,x⟩:=p
    intro t r h;simp only [stX,kq,upd] at h
    split at h
    ·rename_i e;cases h;subst e;exact List.mem_cons_self
    ·exact List.mem_cons_of_mem _ (ih t r h)
 refine AWp.loopG (G:={g : G // I g}) (fun g=>stX (K ++ L g.1)) (fun g=>hp g.1) (fun g=>μ g.1) ⟨g0,h0⟩ (kR (hK.app hs)) hH rfl (fun g=>⟨(hlow g.1 g.2).1,fun t r e=>(hlow g.1 g.2).2 (t,r) (hst _ _ _ e)⟩) (fun g=>hlen g.1 g.2) fun g=>?_
 refine (round g.1 g.2).o.mono fun e D' σ' H' q=>?_
 cases e with
 | normal=>obtain ⟨h1,g',l,h2,h3,h4,h5⟩:=q;exact ⟨h1,⟨g',h2⟩,l,h3,h4,kR h5⟩
 | _=>exact q
end
end GA
end
section
namespace GA
open Go Go.RowKit
structure XGo (P : Program) (N : Nat) (ρ : Option Nat) (c : Code) (Q : Post) (D : List Nat) (σ : St) (H : List Blk) : Prop where
 o : Walk P N ρ c Q D σ H
def qr (P : Program) (T : Tab) (N : Nat) (ρ : Option Nat) (own : List Nat) : Code -> Post -> List Nat -> St -> List Blk -> Prop
 | .skip,Q,D,σ,H=>Q .normal D σ H
 | .exit id,Q,D,σ,H=>Q (.exit id) D σ H
 | .ret,Q,D,σ,H=>Q .ret D σ H
 | .seq a b,Q,D,σ,H=>qr P T N ρ own a (yX (XGo P N ρ b Q) Q) D σ H
 | .cond c x y,Q,D,σ,H=>bnd (ev σ c) fun r=>match r with | .bool b=>XBr b (XGo P N ρ x Q D σ H) (XGo P N ρ y Q D σ H) | _=>False
 | .block id b,Q,D,σ,H=>XGo P N ρ b (fM id Q) D σ H
 | .region id ops false,Q,D,σ,H=>match manyG 12 ops.toList with | true=>Walk P N ρ (.region id ops false) Q D σ H | false=>XReg P T N own ops.toList ops.toList σ H (Q .normal D)
 | c,Q,D,σ,H=>Walk P N ρ c Q D σ H
section
variable {P : Program} {T : Tab} {N : Nat} {ρ : Option Nat} {own : List Nat}
theorem qr.sound (ok : zH P T) : ∀ {c : Code} {Q : Post} {D : List Nat} {σ : St} {H : List Blk},qr P T N ρ own c Q D σ H -> AWp P N ρ c Q D σ H
 | .skip,_,_,_,_,x=>.skip x
 | .exit _,_,_,_,_,x=>.exit x
 | .ret,_,_,_,_,x=>.ret x
 | .seq a b,Q,_,_,_,x=>.seq (AWp.mono (Q:=yX (XGo P N ρ b Q) Q) (qr.sound ok (c:=a) x) fun e D σ H q=>by
   cases e with
   | normal=>exact q.o.o
   | _=>exact q)
 | .cond c _ _,_,_,_,_,x=>by
   obtain ⟨r,h1,h2⟩:=zf x
   split at h2
   ·exact .cond h1 (fun h=>(h2.t h).o.o) (fun h=>(h2.f h).o.o)
   ·exact h2.elim
 | .block id b,Q,D,σ,H,x=>.block (by rw [<- zax];exact x.o.o)
 | .region id ops false,Q,D,σ,H,x=>by
   unfold qr at x
   split at x
   ·exact x.o
   ·exact .regionX ok x
 | .region _ _ true,_,_,_,_,x=>x.o
 | .loop _,_,_,_,_,x=>x.o
 | .rangeFunc ..,_,_,_,_,x=>x.o
 | .scope _,_,_,_,_,x=>x.o
 | .label _,_,_,_,_,x=>x.o
 | .goto _,_,_,_,_,x=>x.o
 | .refuse _,_,_,_,_,x=>x.o
theorem XGo.go {c : Code} {Q : Post} {D : List Nat} {σ : St} {H : List Blk} (ok : zH P T) (own : List Nat) (x : qr P T N ρ own c Q D σ H) : XGo P N ρ c Q D σ H:=⟨⟨qr.sound ok x⟩⟩
theorem Walk.step {c : Code} {Q : Post} {D : List Nat} {σ : St} {H : List Blk} (ok : zH P T) (own : List Nat) (x : qr P T N ρ own c Q D σ H) : Walk P N ρ c Q D σ H:=⟨qr.sound ok x⟩
theorem XGo.at {c : Code} {Q : Post} {D : List Nat} {σ : St} {H : List Blk} (L : List (Nat × AV)) (hs : SubX L σ) (x : Walk P N ρ c Q D (stX L) H) : XGo P N ρ c Q D σ H:=⟨.weak L hs x⟩
end
end GA
end
section
namespace GA
open Go Go.RowKit
theorem XBr.y {p : Prop} [Decidable p] {A B : Prop} (x : p -> A) (h : p:=by first | omega|(simp only [List.length_map];omega)) : XBr (decide p) A B:=.yes (decide_eq_true h) (x h)
theorem XBr.n {p : Prop} [Decidable p] {A B : Prop} (x : ¬ p -> B) (h : ¬ p:=by first | omega|(simp only [List.length_map];omega)) : XBr (decide p) A B:=.no (decide_eq_false h) (x h)
theorem XBr.y1 {a b : Int} {A B : Prop} (x : a = b -> A) (h : a = b:=by omega) : XBr (a == b) A B:=.yes (beq_iff_eq.2 h) (x h)
theorem XBr.n1 {a b : Int} {A B : Prop} (x : a ≠ b -> B) (h : a ≠ b:=by omega) : XBr (a == b) A B:=.no (beq_eq_false_iff_ne.2 h) (x h)
theorem XBr.y2 {a b : Int} {A B : Prop} (x : a ≠ b -> A) (h : a ≠ b:=by omega) : XBr (a != b) A B:=.yes (bne_iff_ne.2 h) (x h)
theorem XBr.n2 {a b : Int} {A B : Prop} (x : a = b -> B) (h : a = b:=by omega) : XBr (a != b) A B:=.no (by rw [h];exact bne_self_eq_false b) (x h)
theorem XInt.a {x : Int} {k : AV -> Prop} (y : k (.int .i64 x)) (l : -9223372036854775808 <= x:=by omega) (u : x <= 9223372036854775807:=by omega) : XInt .i64 x k:=.i64 l u y
theorem zh.a {p A : Prop} (x : A) (h : p:=by first | omega | rfl | decide|exact ⟨rfl,by decide,rfl⟩|exact wideI _|(unfold Room;constructor <;> ((try simp) <;> omega))|exact ⟨rfl,by simp only [List.length_map],by unfold Room;constructor <;> ((try simp) <;> omega)⟩|exact ⟨by omega,by omega,by unfold Room;constructor <;> ((try simp) <;> omega)⟩|fail) : zh p A:=⟨h,x⟩
theorem XIx.a {α : Type} [Inhabited α] {f : α -> AV} {xs : List α} {i w : Nat} {k : AV -> Prop} (x : k (.pim (f (xs.getD i default)).cells)) (h : i < xs.length:=by omega) (hw : ∀ x,(f x).cells.length = w:=by intro _;rfl) : XIx (xs.map f) (i : Int) w k:=.nat h hw x
theorem XIx.b {α : Type} [Inhabited α] {f : α -> AV} {xs : List α} {n : Int} {w : Nat} {k : AV -> Prop} (x : k (.pim (f (xs.getD n.toNat default)).cells)) (h1 : 0 <= n:=by omega) (h2 : n < xs.length:=by omega) (hw : ∀ x,(f x).cells.length = w:=by intro _;rfl) : XIx (xs.map f) n w k:=.map h1 h2 hw x
end GA
end
section
namespace GA
open Go Go.RowKit Go.Proofs
theorem zd : Tryz.prog.follows .mixedOrders = true:=by kernel_rfl
theorem kk {α : Type} {p : α -> Bool} {xs : List α} {d : α} (h : ∀ j,j < xs.length -> p (xs.getD j d) = false) : xs.findIdx? p = none:=by
 rw [List.findIdx?_eq_none_iff];intro x hx
 obtain ⟨j,hj,rfl⟩:=List.mem_iff_getElem.1 hx
 have:=h j hj;rwa [List.getD_eq_getElem?_getD,List.getElem?_eq_getElem hj] at this
theorem km {α : Type} {p : α -> Bool} {xs : List α} {d : α} {i : Nat} (hi : i < xs.length) (hp : p (xs.getD i d) = true) (h : ∀ j,j < i -> p (xs.getD j d) = false) : xs.findIdx? p = some i:=by
 rw [List.findIdx?_eq_some_iff_getElem]
 refine ⟨hi,by rwa [List.getD_eq_getElem?_getD,List.getElem?_eq_getElem hi] at hp,fun j hj=>?_⟩
 have:=h j hj;rw [List.getD_eq_getElem?_getD,List.getElem?_eq_getElem (by omega)] at this;simpa using this
theorem zk {α : Type} {xs : List α} {d : α} {i : Nat} (hi : i < xs.length) : xs.getD i d ∈ xs:=by
 rw [List.getD_eq_getElem?_getD,List.getElem?_eq_getElem hi];exact List.getElem_mem hi
def idxR {α : Type} (p : α -> Bool) (xs : List α) : Int:=match xs.findIdx? p with | some i=>i | none=>-1
theorem kW {α : Type} {p : α -> Bool} {xs : List α} : (0 <= idxR p xs) ↔ xs.any p = true:=by
 unfold idxR
 cases h : xs.findIdx? p with
 | none=>rw [List.findIdx?_eq_none_iff] at h;simp;intro x hx;simpa using h x hx
 | some i =>
   rw [List.findIdx?_eq_some_iff_getElem] at h;obtain ⟨h1,h2,_⟩:=h
   simp;exact ⟨_,List.getElem_mem h1,h2⟩
theorem zdq {α : Type} {xs ys : List α} {d : α} (hl : xs.length = ys.length) (h : ∀ j,j < xs.length -> xs.getD j d = ys.getD j d) : xs = ys:=by
 apply List.ext_getElem hl
 intro j h1 h2
 have:=h j h1
 rwa [List.getD_eq_getElem?_getD,List.getD_eq_getElem?_getD,List.getElem?_eq_getElem h1,List.getElem?_eq_getElem h2] at this
theorem zay (n1 n2 : Bool) (xs ys : List Int) (hx : xs.length <= 100000) : Comp Tryz.prog 245 [.sl n1 (ints xs),.sl n2 (ints ys)] (.bool (xs == ys)):=by
 refine Comp.body (T:=tab) (res:=[.tmp 4]) za [] Tryz.func245 rfl (by kernel_rfl) Tryz.ntmps245 rfl (by simp only [List.length_cons,List.length_nil];decide) (by simp only [lowL,AV.low,lowI];rfl) ?_;conv=>whnf
 repeat' ((with_reducible first|refine XBr.y2 fun h=>?_|refine XBr.n2 fun h=>?_|refine XBr.bne (fun h=>?_) fun h=>?_) <;> conv=>whnf)
 ·refine XOut.bool ?_
  rw [Bool.eq_iff_iff];simp;intro e;subst e;simp at h
 have hl : (xs.length : Int) = ys.length:=by simpa using h
 refine Walk.loop za [] (fun i : Nat=>i <= xs.length /\ ∀ j,j < i -> xs.getD j default = ys.getD j default) (fun i=>[(0,.sl n1 (ints xs)),(1,.sl n2 (ints ys)),(12,.int .i64 xs.length),(13,.int .i64 i)]) (fun _=>[]) (fun i=>xs.length - i) 0 ⟨by omega,by omega⟩ rfl ⟨rfl,rfl,by simp only [List.length_map];rfl,rfl,trivial⟩ ?_
 rintro i ⟨h2,h3⟩
 conv=>whnf
 repeat' ((with_reducible apply XBr.dec) <;> (intro h;first|(exfalso;omega)|((try simp only [List.length_map] at h);first|(exfalso;omega)|(conv=>whnf))))
 ·apply Walk.drawX za zd [] [] (fun _=>[]) [_,_,_,_,_,_,_,_,_] (by kernel_rfl) rfl
  ·skip
   repeat' first|((with_reducible first|apply Chk.go|apply ChkA.go);conv=>whnf)|(refine XIx.a ?_;conv=>whnf)|(with_reducible first|apply XAnd.mk|exact trivial)|(exact zg.mk rfl rfl)|fail
  ·skip
   repeat' first|((with_reducible first|apply ChkF.go|apply ChkB.go);conv=>whnf)|(with_reducible first|apply XAnd.mk|exact trivial)|fail
  ·conv=>whnf
   repeat' ((with_reducible first|refine XBr.y2 fun h=>?_|refine XBr.n2 fun h=>?_|refine XBr.bne (fun h=>?_) fun h=>?_|refine XInt.a ?_) <;> conv=>whnf)
   ·refine XOut.bool ?_
    rw [Bool.eq_iff_iff];simp
    intro e;subst e;exact h rfl
   ·refine zj.go (i + 1) ⟨by omega,fun j hj=>?_⟩ (by omega) rfl ⟨rfl,rfl,rfl,rfl,trivial⟩
    by_cases hji : j = i
    ·subst hji;exact h
    ·exact h3 j (by omega)
 ·refine XOut.bool ?_
  have:=zdq (by omega) fun j hj=>h3 j (by omega)
  rw [this];simp
theorem eq_int (n1 n2 : Bool) (xs ys : List Int) (hx : xs.length <= 100000) : Comp Tryz.prog 72 [.sl n1 (ints xs),.sl n2 (ints ys)] (.bool (xs == ys)):=by
 refine Comp.body (T:=tab) (res:=[.tmp 4]) za [] Tryz.func72 rfl (by kernel_rfl) Tryz.ntmps72 rfl (by simp only [List.length_cons,List.length_nil];decide) (by simp only [lowL,AV.low,lowI];rfl) ?_;conv=>whnf
 refine zb.ret (zay n1 n2 xs ys hx) ?_
 conv=>whnf
 exact XOut.bool rfl
theorem dup_int (nl : Bool) (xs : List Int) (hx : xs.length <= 100000) : Comp Tryz.prog 122 [.sl nl (ints xs)] (.sl false (ints xs)):=by
 refine Comp.body (T:=tab) (res:=[.tmp 2]) za [] Tryz.func122 rfl (by kernel_rfl) Tryz.ntmps122 rfl (by simp only [List.length_cons,List.length_nil];decide) (by simp only [lowL,AV.low,lowI];rfl) ?_;conv=>whnf
 refine zh.mk ⟨by omega,by simp,by unfold Room;simp;omega⟩ ?_
 conv=>whnf
 refine zh.mk (wideI xs) ?_
 conv=>whnf
 refine zh.mk ⟨rfl,rfl,by unfold Room;simp;omega⟩ ?_
 conv=>whnf
 exact ⟨Froz.grow rfl (by simp) (lowI xs)⟩
structure Sk where
 m : Int
 o : Int
 deriving Inhabited,DecidableEq
structure Ld where
 bears : Int
 shrink : Int
 nls : Bool
 sacks : List Sk
 nla : Bool
 apart : List (Int × Int)
 nlw : Bool
 wth : List (Int × Int)
def weightR (l : Ld) (s : Sk) : Int:=s.m - s.m * l.shrink / 100
theorem gQ {n : Nat} (h : n < 9223372036854775808) : IntKind.i64.wrap (n : Int) = n:=by
 simp only [IntKind.wrap,IntKind.bits,IntKind.signed];simp;omega
theorem qN (a : Nat) : BitVec.ofInt IntKind.i64.bits (a : Int) = BitVec.ofNat 64 a:=BitVec.ofInt_natCast ..
theorem fI {a b : Nat} (ha : a < 9223372036854775808) (hb : b < 9223372036854775808) : iand .i64 a b = ((a &&& b : Nat) : Int):=by
 have h : a &&& b < 9223372036854775808:=Nat.lt_of_le_of_lt Nat.and_le_left ha
 unfold iand
 rw [qN,qN]
 have : (BitVec.ofNat 64 a &&& BitVec.ofNat 64 b).toNat = a &&& b:=by
  rw [BitVec.toNat_and,BitVec.toNat_ofNat,BitVec.toNat_ofNat,Nat.mod_eq_of_lt (by omega),Nat.mod_eq_of_lt (by omega)]
 exact (congrArg (fun n : Nat=>IntKind.i64.wrap (n : Int)) this).trans (gQ h)
theorem ior_nat {a b : Nat} (ha : a < 9223372036854775808) (hb : b < 9223372036854775808) : ior .i64 a b = ((a ||| b : Nat) : Int):=by
 have h : a ||| b < 2 ^ 63:=Nat.or_lt_two_pow (n:=63) (by omega) (by omega)
 unfold ior
 rw [qN,qN]
 have : (BitVec.ofNat 64 a ||| BitVec.ofNat 64 b).toNat = a ||| b:=by
  rw [BitVec.toNat_or,BitVec.toNat_ofNat,BitVec.toNat_ofNat,Nat.mod_eq_of_lt (by omega),Nat.mod_eq_of_lt (by omega)]
 exact (congrArg (fun n : Nat=>IntKind.i64.wrap (n : Int)) this).trans (gQ (by omega))
def diff (a b : Nat) : Nat:=a ^^^ (a &&& b)
theorem iandn_nat {a b : Nat} (ha : a < 9223372036854775808) (hb : b < 9223372036854775808) : iandn .i64 a b = ((diff a b : Nat) : Int):=by
 have h0 : a &&& b < 2 ^ 63:=Nat.lt_of_le_of_lt Nat.and_le_left (by omega)
 have h : a ^^^ (a &&& b) < 2 ^ 63:=Nat.xor_lt_two_pow (n:=63) (by omega) h0
 unfold iandn
 rw [qN,qN]
 have hbv : BitVec.ofNat 64 a &&& ~~~ (BitVec.ofNat 64 b) = BitVec.ofNat 64 a ^^^ (BitVec.ofNat 64 a &&& BitVec.ofNat 64 b):=by
  apply BitVec.eq_of_getLsbD_eq;intro i hi;simp
  cases (BitVec.ofNat 64 a).getLsbD i <;> cases (BitVec.ofNat 64 b).getLsbD i <;> simp_all
 have : (BitVec.ofNat 64 a &&& ~~~ (BitVec.ofNat 64 b)).toNat = a ^^^ (a &&& b):=by
  rw [hbv,BitVec.toNat_xor,BitVec.toNat_and,BitVec.toNat_ofNat,BitVec.toNat_ofNat,Nat.mod_eq_of_lt (by omega),Nat.mod_eq_of_lt (by omega)]
 exact (congrArg (fun n : Nat=>IntKind.i64.wrap (n : Int)) this).trans (gQ (by omega))
theorem shl_nat {k : Nat} (hk : k <= 64) : (1 : Int) * 2 ^ (min (k : Int).toNat IntKind.i64.bits) = ((2 ^ k : Nat) : Int):=by
 have : min (k : Int).toNat IntKind.i64.bits = k:=by simp only [Int.toNat_natCast,IntKind.bits];omega
 rw [this];simp
def natA (n : Nat) : AV:=.int .i64 n
def hsK (H : List Blk) : List Bool -> List Blk:=fun _=>H
theorem zb3 (a b i : Nat) : (diff a b).testBit i = (a.testBit i && !b.testBit i):=by
 unfold diff;simp only [Nat.testBit_xor,Nat.testBit_and]
 cases a.testBit i <;> cases b.testBit i <;> rfl
theorem zcG (f : Nat -> Nat) (t : TypeId) (nl : Bool) (xs : List Int) : (Blk.grow t nl (ints xs)).ren f = .grow t nl (ints xs):=Blk.ren_low (n:=0) (fun i hi=>by omega) (lowI xs)
structure Hp where
 nl : Bool
 bs : List Int
 nx : Nat
 rd : Int
 deriving Inhabited
def hpN (h : Hp) : Int:=IntKind.u32.wrap (40503 * IntKind.u32.wrap (h.rd + 1))
theorem zy {α : Type} (l : List α) (x : α) : (l ++ [x]).isEmpty = (l.isEmpty && false):=by cases l <;> rfl
def hp0 (nl : Bool) (bs : List Int) : Hp:=⟨nl,bs,0,0⟩
theorem vk {a b : Nat} (h : ∀ i,a.testBit i = b.testBit i) : a = b:=Nat.eq_of_testBit_eq h
theorem zcx {c i : Nat} (h : c.testBit i = true) : c ≠ 0:=fun e=>by rw [e,Nat.zero_testBit] at h;cases h
def wsL (l : Ld) : List Int:=l.sacks.map (weightR l)
def e0 (l : Ld) : AV:=.agg [.int .i64 l.bears,.sl (wsL l).isEmpty (ints (wsL l))]
theorem equalI (n1 n2 : Bool) (xs : List Int) (hx : xs.length <= 100000) : Comp Tryz.prog 245 [.sl n1 (ints xs),.sl n2 (ints xs)] (.bool true):=by
 have h:=zay n1 n2 xs xs hx
 rwa [show (xs == xs) = true by simp] at h
theorem eqI (n1 n2 : Bool) (xs : List Int) (hx : xs.length <= 100000) : Comp Tryz.prog 72 [.sl n1 (ints xs),.sl n2 (ints xs)] (.bool true):=by
 have h:=eq_int n1 n2 xs xs hx
 rwa [show (xs == xs) = true by simp] at h
theorem kj {α : Type} [Inhabited α] {xs : List α} {k : Nat} (h : k < xs.length) : xs.drop k = xs.getD k default :: xs.drop (k + 1):=by
 rw [List.drop_eq_getElem_cons h,List.getD_eq_getElem?_getD,List.getElem?_eq_getElem h];rfl
def hit (R : Nat -> Bool) (s a k : Nat) : Bool:=R k && (a &&& k == 0) && (a + k == s)
def inZ (n lo hi : Int) : Bool:=decide (lo <= n) && decide (n <= hi)
theorem zr {n lo hi : Int} : inZ n lo hi = true ↔ lo <= n /\ n <= hi:=by simp [inZ]
end GA
end
section
namespace GA
open Go Go.RowKit Go.ChangeShapes Go.WideShapes Go.ChangeAt Go.Proofs Go.Proofs.YtdeocemmlagnhaaGreat
section
variable {P : Program} {w : World} {r : Reach} {base : Nat} {t : TypeId} {v : Value}
end
theorem ownK : ownKnob Tryz.prog.godebug = none:=by kernel_rfl
end GA
end
section
namespace GA
open Go Go.RowKit Go.Proofs
theorem one1 {a : AV} (h : a.one = true) : ∀ x ∈ [a],x.one = true:=fun x hx=>by rw [List.mem_singleton] at hx;rw [hx];exact h
theorem zK (xs : List Int) : (ints xs).length = xs.length:=List.length_map _
end GA
end
section
namespace GA
open Go Go.RowKit Go.Proofs
abbrev Wy:=Int × Int × Int
abbrev Rw:=Bool × List Int
abbrev Sps:=Bool × List (Int × Int)
abbrev Tru:=Bool × List Sps
structure Sn where
 places : Int
 home : Int
 bed : Int
 last : Int
 nw : Bool
 ways : List Wy
 nk : Bool
 looks : List Rw
 nt : Bool
 truths : List Tru
instance : Inhabited Sn:=⟨⟨0,0,0,0,true,[],true,[],true,[]⟩⟩
def wyA (w : Wy) : AV:=.agg [.int .i64 w.1,.int .i64 w.2.1,.int .i64 w.2.2]
def rwA (r : Rw) : AV:=.sl r.1 (ints r.2)
def sgA (x : Int × Int) : AV:=.agg [.int .i64 x.1,.int .i64 x.2]
def spsA (r : Sps) : AV:=.sl r.1 (r.2.map sgA)
def trA (t : Tru) : AV:=.agg [.sl t.1 (t.2.map spsA)]
def snC (s : Sn) : List AV:=[.int .i64 s.places,.int .i64 s.home,.int .i64 s.bed,.int .i64 s.last,.sl s.nw (s.ways.map wyA),.sl s.nk (s.looks.map rwA),.sl s.nt (s.truths.map trA)]
def snA (s : Sn) : AV:=.agg (snC s)
theorem wyL {n : Nat} (w : Wy) : (wyA w).low n = true:=rfl
theorem sgL {n : Nat} (w : Int × Int) : (sgA w).low n = true:=rfl
theorem rwL {n : Nat} (r : Rw) : (rwA r).low n = true:=lowI r.2
theorem yB {n : Nat} (xs : List Wy) : lowL n (xs.map wyA) = true:=yr (fun _=>rfl) xs
theorem zN {n : Nat} (xs : List (Int × Int)) : lowL n (xs.map sgA) = true:=yr (fun _=>rfl) xs
theorem yP {n : Nat} (xs : List Rw) : lowL n (xs.map rwA) = true:=yr (fun _=>rwL _) xs
theorem spsL {n : Nat} (r : Sps) : (spsA r).low n = true:=zN r.2
theorem y9 {n : Nat} (xs : List Sps) : lowL n (xs.map spsA) = true:=yr (fun _=>spsL _) xs
theorem trL {n : Nat} (t : Tru) : (trA t).low n = true:=by unfold trA;simp only [AV.low,lowL,y9];rfl
theorem yO {n : Nat} (xs : List Tru) : lowL n (xs.map trA) = true:=yr (fun _=>trL _) xs
theorem snCL {n : Nat} (s : Sn) : lowL n (snC s) = true:=by unfold snC;simp only [lowL,AV.low,yB,yP,yO];rfl
theorem snL {n : Nat} (s : Sn) : (snA s).low n = true:=snCL s
theorem gZ (s : Sn) : ∀ x ∈ snC s,x.one = true:=by simp [snC,AV.one]
def bsum (f : Nat -> Bool) : Nat -> Nat
 | 0=>0
 | n + 1=>bsum f n + if f n = true then 2 ^ n else 0
theorem jl (f : Nat -> Bool) : ∀ n,bsum f n < 2 ^ n
 | 0=>by simp [bsum]
 | n + 1=>by
   have:=jl f n
   rw [bsum,Nat.pow_succ]
   split <;> omega
theorem y5 (f : Nat -> Bool) : ∀ n i,(bsum f n).testBit i = (decide (i < n) && f i)
 | 0,i=>by simp [bsum]
 | n + 1,i=>by
   have hlt:=jl f n
   have ih:=y5 f n i
   rw [bsum]
   by_cases hf : f n = true
   ·rw [if_pos hf,show bsum f n + 2 ^ n = 2 ^ n * 1 + bsum f n by omega,Nat.testBit_two_pow_mul_add 1 hlt]
    by_cases hi : i < n
    ·rw [if_pos hi,ih];simp [hi,show i < n + 1 by omega]
    ·rw [if_neg hi,show (1 : Nat) = 2 ^ 0 from rfl,Nat.testBit_two_pow]
     by_cases he : i = n
     ·subst he;simp [hf]
     ·simp [show ¬ i < n + 1 by omega];omega
   ·rw [if_neg hf,Nat.add_zero,ih]
    by_cases he : i = n
    ·subst he;simp [hf]
    ·congr 1;rw [decide_eq_decide];omega
theorem kG {f g : Nat -> Bool} : ∀ {n : Nat},(∀ i,i < n -> f i = g i) -> bsum f n = bsum g n
 | 0,_=>rfl
 | n + 1,h=>by rw [bsum,bsum,kG fun i hi=>h i (by omega),h n (by omega)]
theorem bsum_set {f : Nat -> Bool} {n i : Nat} (h : i < n) : bsum f n ||| 2 ^ i = bsum (updV f i true) n:=by
 refine vk fun k=>?_
 rw [Nat.testBit_or,y5,y5,Nat.testBit_two_pow]
 unfold updV
 by_cases he : i = k
 ·subst he;simp [h]
 ·rw [if_neg (fun e=>he e.symm)];simp [he]
def dryT (s : Sn) (t p m : Nat) : Bool:=((s.truths.getD t default).2.getD p default).2.any fun x=>inZ m x.1 x.2
def drN (s : Sn) (p m : Nat) : Nat:=bsum (fun t=>dryT s t p m) s.truths.length
def allN (s : Sn) : Nat:=2 ^ s.truths.length - 1
def ko (s : Sn) (t p : Nat) : Int:=(s.looks.getD t default).2.getD p default
def partN (s : Sn) (p left n : Nat) : Nat:=bsum (fun t=>ko s t p == n && left.testBit t) s.looks.length
def zJ (s : Sn) (p left : Nat) : Nat -> List Nat
 | 0=>[]
 | n + 1=>zJ s p left n ++ if partN s p left n = 0 then [] else [partN s p left n]
def zC (s : Sn) (p left : Nat) : List Nat:=zJ s p left 4
structure Sta where
 p : Nat
 m : Nat
 l : Nat
 deriving DecidableEq
instance : Inhabited Sta:=⟨⟨0,0,0⟩⟩
def staA (x : Sta) : AV:=.agg [natA x.p,natA x.m,natA x.l]
def zW (s : Sn) (x : Sta) : Bool:=diff x.l (drN s x.p x.m) == 0 && x.l != 0
def yh (w : Wy) (p q : Int) : Bool:=w.1 == p && w.2.1 == q || w.1 == q && w.2.1 == p
def jf (s : Sn) (p q : Nat) : List (Int × Int):=(if p = q then [((p : Int),(1 : Int))] else []) ++ (s.ways.filter fun w=>yh w p q).map fun w=>((q : Int),w.2.2)
def yc (s : Sn) (p : Nat) : Nat -> List (Int × Int)
 | 0=>[]
 | q + 1=>yc s p q ++ jf s p q
def waysL (s : Sn) (p : Nat) : List (Int × Int):=yc s p s.places.toNat
def outS (s : Sn) (x : Sta) (t : Int × Int) : List Sta:=(zC s t.1.toNat x.l).map fun l=>⟨t.1.toNat,(x.m + t.2).toNat,l⟩
def zm (s : Sn) (x : Sta) (t : Int × Int) : List Sta:=
 if zW s x = true /\ inZ (x.m + t.2) 0 s.last = true /\ (waysL s x.p).contains t = true /\ (outS s x t).all (zW s) = true then outS s x t else []
def zT (s : Sn) (x : Sta) : List (Int × Int):=(waysL s x.p).filter fun t=>!(zm s x t).isEmpty
def minL (f : Sta -> Int) : List Sta -> Int
 | []=>0
 | x :: l=>l.foldl (fun n y=>min n (f y)) (f x)
def zP (s : Sn) (f : Sta -> Int) (x : Sta) (t : Int × Int) : Int:=
 let n:=minL f (zm s x t)
 if n ≠ -1 /\ (x.p : Int) = s.bed /\ t.1 = s.bed then n + 1 else n
def ye (s : Sn) (x : Sta) : Int:=if (x.p : Int) = s.home then 0 else -1
def zM (s : Sn) (f : Sta -> Int) (x : Sta) : Int:=if zW s x = true then (zT s x).foldl (fun n t=>max n (zP s f x t)) (ye s x) else -1
def yD (s : Sn) : Nat -> Sta -> Int
 | 0,_=>-1
 | k + 1,x=>zM s (yD s k) x
def zi (s : Sn) (x : Sta) : Int:=yD s (s.last + 1 - x.m).toNat x
def nvs (W : Nat) (F : Nat -> Nat) : List AV:=(vecF W F).map natA
theorem ji (W : Nat) (F : Nat -> Nat) : (nvs W F).length = W:=by unfold nvs;rw [List.length_map,zx]
theorem zbA {n : Nat} (W : Nat) (F : Nat -> Nat) : lowL n (nvs W F) = true:=zbM fun _=>rfl
theorem nvs0 (W : Nat) : List.replicate W (AV.int .i64 0) = nvs W fun _=>0:=by unfold nvs;rw [yz,List.map_replicate];rfl
def spX (s : Sn) (t p k : Nat) : Int × Int:=(((s.truths.getD t default).2.getD p default).2).getD k default
def dryW (s : Sn) (i p k : Nat) (m0 : Int) (t q m : Nat) : Bool:=
 if t < i then dryT s t q m
 else if t = i then (if q < p then dryT s i q m else if q = p then ((((s.truths.getD i default).2.getD p default).2.take k).any fun x=>inZ m x.1 x.2) ||(decide ((spX s i p k).1 <= m) && decide ((m : Int) < m0) && decide ((m : Int) <= (spX s i p k).2)) else false)
 else false
def dryG (T : Nat) (F : Nat -> Nat -> Nat -> Bool) (j : Nat) : Nat:=bsum (fun t=>F t (j / 61) (j % 61)) T
theorem dryG_set {T i p m : Nat} {F F' : Nat -> Nat -> Nat -> Bool} (hi : i < T) (hm : m < 61) (h : ∀ t q k,F' t q k = if t = i /\ q = p /\ k = m then true else F t q k) : dryG T F' = updV (dryG T F) (61 * p + m) (dryG T F (61 * p + m) ||| 2 ^ i):=by
 funext j
 unfold updV
 by_cases hj : j = 61 * p + m
 ·rw [if_pos hj]
  unfold dryG
  have h1 : j / 61 = p:=by omega
  have h2 : j % 61 = m:=by omega
  rw [<- hj,bsum_set hi,h1,h2]
  refine kG fun t ht=>?_
  rw [h]
  unfold updV
  by_cases e : t = i
  ·rw [if_pos ⟨e,rfl,rfl⟩,if_pos e]
  ·rw [if_neg (fun h=>e h.1),if_neg e]
 ·rw [if_neg hj]
  unfold dryG
  refine kG fun t ht=>?_
  rw [h,if_neg (fun h=>hj (by omega))]
theorem dryW_min {s : Sn} {i p k : Nat} {m : Nat} (h1 : (spX s i p k).1 <= m) (h2 : (m : Int) <= (spX s i p k).2) (t q n : Nat) : dryW s i p k ((m : Int) + 1) t q n = if t = i /\ q = p /\ n = m then true else dryW s i p k m t q n:=by
 unfold dryW
 by_cases e1 : t < i
 ·rw [if_pos e1,if_neg (fun h=>by omega),if_pos e1]
 ·rw [if_neg e1]
  by_cases e2 : t = i
  ·rw [if_pos e2]
   by_cases e3 : q < p
   ·rw [if_pos e3,if_neg (fun h=>by omega),if_neg e1,if_pos e2,if_pos e3]
   ·rw [if_neg e3]
    by_cases e4 : q = p
    ·rw [if_pos e4]
     by_cases e5 : n = m
     ·rw [if_pos ⟨e2,e4,e5⟩,e5]
      have a1 : decide ((spX s i p k).1 <= (m : Int)) = true:=decide_eq_true h1
      have a2 : decide ((m : Int) < (m : Int) + 1) = true:=decide_eq_true (by omega)
      have a3 : decide ((m : Int) <= (spX s i p k).2) = true:=decide_eq_true h2
      rw [a1,a2,a3];simp
     ·rw [if_neg (fun h=>e5 h.2.2),if_neg e1,if_pos e2,if_neg e3,if_pos e4]
      have : decide ((n : Int) < (m : Int) + 1) = decide ((n : Int) < (m : Int)):=by rw [decide_eq_decide];omega
      rw [this]
    ·rw [if_neg e4,if_neg (fun h=>e4 h.2.1),if_neg e1,if_pos e2,if_neg e3,if_neg e4]
  ·rw [if_neg e2,if_neg (fun h=>e2 h.1),if_neg e1,if_neg e2]
def dryV (s : Sn) (i p k : Nat) : Nat -> Nat -> Nat -> Bool:=dryW s i p k (spX s i p k).1
theorem wx (s : Sn) (i p k t q m : Nat) : dryV s i p k t q m = if t < i then dryT s t q m else if t = i then (if q < p then dryT s i q m else if q = p then ((((s.truths.getD i default).2.getD p default).2.take k).any fun x=>inZ m x.1 x.2) else false) else false:=by
 unfold dryV dryW
 have h : (decide ((spX s i p k).1 <= (m : Int)) && decide ((m : Int) < (spX s i p k).1) && decide ((m : Int) <= (spX s i p k).2)) = false:=by
  by_cases h : (spX s i p k).1 <= (m : Int)
  ·rw [show decide ((m : Int) < (spX s i p k).1) = false from decide_eq_false (by omega)];simp
  ·rw [decide_eq_false h];rfl
 rw [h,Bool.or_false]
theorem dryV_span {s : Sn} {i p k : Nat} (hk : k < ((s.truths.getD i default).2.getD p default).2.length) : dryW s i p k ((spX s i p k).2 + 1) = dryV s i p (k + 1):=by
 funext t q m
 rw [wx]
 unfold dryW
 by_cases e1 : t < i
 ·rw [if_pos e1,if_pos e1]
 ·rw [if_neg e1,if_neg e1]
  by_cases e2 : t = i
  ·rw [if_pos e2,if_pos e2]
   by_cases e3 : q < p
   ·rw [if_pos e3,if_pos e3]
   ·rw [if_neg e3,if_neg e3]
    by_cases e4 : q = p
    ·rw [if_pos e4,if_pos e4,zD hk,List.any_append]
     congr 1
     show _ = (inZ m (spX s i p k).1 (spX s i p k).2 || false)
     rw [Bool.or_false]
     unfold inZ
     by_cases h : (m : Int) <= (spX s i p k).2
     ·rw [show decide ((m : Int) < (spX s i p k).2 + 1) = true from decide_eq_true (by omega),Bool.and_true]
     ·rw [decide_eq_false h,Bool.and_false,Bool.and_false]
    ·rw [if_neg e4,if_neg e4]
  ·rw [if_neg e2,if_neg e2]
theorem dryV_row (s : Sn) (i p : Nat) : dryV s i p ((s.truths.getD i default).2.getD p default).2.length = dryV s i (p + 1) 0:=by
 funext t q m
 rw [wx,wx]
 by_cases e1 : t < i
 ·rw [if_pos e1,if_pos e1]
 ·rw [if_neg e1,if_neg e1]
  by_cases e2 : t = i
  ·rw [if_pos e2,if_pos e2,List.take_length]
   by_cases e3 : q < p
   ·rw [if_pos e3,if_pos (by omega)]
   ·rw [if_neg e3]
    by_cases e4 : q = p
    ·rw [if_pos e4,if_pos (by omega),e4];rfl
    ·rw [if_neg e4,if_neg (by omega)]
     by_cases e5 : q = p + 1
     ·rw [if_pos e5];rfl
     ·rw [if_neg e5]
  ·rw [if_neg e2,if_neg e2]
theorem dryT_far {s : Sn} {t q m : Nat} (h : (s.truths.getD t default).2.length <= q) : dryT s t q m = false:=by
 unfold dryT
 rw [List.getD_eq_getElem?_getD (l:=(s.truths.getD t default).2),List.getElem?_eq_none h];rfl
theorem zde (s : Sn) (i : Nat) : dryV s i (s.truths.getD i default).2.length 0 = dryV s (i + 1) 0 0:=by
 funext t q m
 rw [wx,wx]
 by_cases e1 : t < i
 ·rw [if_pos e1,if_pos (by omega)]
 ·rw [if_neg e1]
  by_cases e2 : t = i
  ·rw [if_pos e2,if_pos (show t < i + 1 by omega),e2]
   by_cases e3 : q < (s.truths.getD i default).2.length
   ·rw [if_pos e3]
   ·rw [if_neg e3,dryT_far (by omega)]
    split <;> rfl
  ·rw [if_neg e2,if_neg (by omega)]
   by_cases e3 : t = i + 1
   ·rw [if_pos e3]
    by_cases e4 : q < 0
    ·omega
    ·rw [if_neg e4]
     split <;> rfl
   ·rw [if_neg e3]
theorem dryV_beg (s : Sn) : dryV s 0 0 0 = fun _ _ _=>false:=by
 funext t q m
 rw [wx,if_neg (by omega)]
 split
 ·rw [if_neg (by omega)]
  split <;> rfl
 ·rfl
theorem dryV_end (s : Sn) {t q m : Nat} (ht : t < s.truths.length) : dryV s s.truths.length 0 0 t q m = dryT s t q m:=by rw [wx,if_pos ht]
theorem dryG_end (s : Sn) {p m : Nat} (hm : m < 61) : dryG s.truths.length (dryV s s.truths.length 0 0) (61 * p + m) = drN s p m:=by
 unfold dryG drN
 rw [show (61 * p + m) / 61 = p by omega,show (61 * p + m) % 61 = m by omega]
 exact kG fun t ht=>dryV_end s ht
theorem dryG_beg (s : Sn) (T : Nat) : dryG T (dryV s 0 0 0) = fun _=>0:=by
 funext j
 unfold dryG
 rw [dryV_beg]
 induction T with
 | zero=>rfl
 | succ n ih=>rw [bsum,ih];rfl
def cntB (s : Sn) : Bool:=inZ s.places 1 5 && inZ s.truths.length 1 4 && decide ((s.ways.length : Int) <= 10) && decide ((s.looks.length : Int) = s.truths.length) && s.looks.all (fun l=>decide ((l.2.length : Int) = s.places)) && s.truths.all (fun t=>decide ((t.2.length : Int) = s.places))
def plB (s : Sn) (p : Int) : Bool:=inZ p 0 (s.places - 1)
def wyB (s : Sn) (i : Nat) : Wy:=s.ways.getD i default
def agnI (s : Sn) (i : Nat) : Bool:=(wyB s i).1 == (wyB s i).2.1 ||(s.ways.take i).any fun x=>yh x (wyB s i).1 (wyB s i).2.1
def agnB (s : Sn) : Bool:=(List.range s.ways.length).any (agnI s)
def gc (pv : Option Int) (lo : Int) : Bool:=match pv with | some h=>decide (lo <= h + 1) | none=>false
def spE (last : Int) : Option Int -> List (Int × Int) -> Int
 | _,[]=>0
 | pv,x :: l=>if (inZ x.1 0 last && inZ x.2 x.1 last) = false then 3 else if gc pv x.1 = true then 4 else spE last (some x.2) l
def yW : List Int -> Int
 | []=>0
 | e :: l=>if e ≠ 0 then e else yW l
theorem kP : ∀ {l : List Int},yW l = 0 ↔ ∀ e ∈ l,e = 0
 | []=>by simp [yW]
 | e :: l=>by
   rw [yW]
   by_cases h : e = 0
   ·rw [if_neg (fun h'=>h' h),kP];simp [h]
   ·rw [if_pos h];simp [h]
def trE (s : Sn) (t : Tru) : Int:=yW (t.2.map fun r=>spE s.last none r.2)
def snE (s : Sn) : Int:=
 if cntB s = false then 2
 else if inZ s.last 1 60 = false \/ s.ways.all (fun w=>inZ w.2.2 1 20) = false then 3
 else if s.looks.all (fun l=>l.2.all fun n=>inZ n 0 3) = false then 3
 else if plB s s.home = false \/ plB s s.bed = false \/ s.ways.all (fun w=>plB s w.1 && plB s w.2.1) = false then 1
 else if s.home = s.bed then 5
 else if agnB s = true then 5
 else yW (s.truths.map (trE s))
structure SnOk (s : Sn) : Prop where
 p1 : 1 <= s.places
 p2 : s.places <= 5
 t1 : 1 <= s.truths.length
 t2 : s.truths.length <= 4
 w1 : s.ways.length <= 10
 k1 : s.looks.length = s.truths.length
 kl : ∀ l ∈ s.looks,(l.2.length : Int) = s.places
 tl : ∀ t ∈ s.truths,(t.2.length : Int) = s.places
 l1 : 1 <= s.last
 l2 : s.last <= 60
 wm : ∀ w ∈ s.ways,1 <= w.2.2 /\ w.2.2 <= 20
 kn : ∀ l ∈ s.looks,∀ n ∈ l.2,0 <= n /\ n <= 3
 h1 : 0 <= s.home /\ s.home < s.places
 b1 : 0 <= s.bed /\ s.bed < s.places
 wp : ∀ w ∈ s.ways,0 <= w.1 /\ w.1 < s.places /\ 0 <= w.2.1 /\ w.2.1 < s.places
 hb : s.home ≠ s.bed
 wa : ∀ i,i < s.ways.length -> agnI s i = false
 sp : ∀ t ∈ s.truths,∀ r ∈ t.2,spE s.last none r.2 = 0
theorem zO {s : Sn} : snE s = 0 ↔ SnOk s:=by
 unfold snE
 constructor
 ·intro h
  split at h;· cases h
  split at h;· cases h
  split at h;· cases h
  split at h;· cases h
  split at h;· cases h
  split at h;· cases h
  rename_i h1 h2 h3 h4 h5 h6
  have h1 : cntB s = true:=by simpa using h1
  unfold cntB at h1
  simp only [Bool.and_eq_true,zr,decide_eq_true_eq,List.all_eq_true] at h1
  obtain ⟨⟨⟨⟨⟨a1,a2⟩,a3⟩,a4⟩,a5⟩,a6⟩:=h1
  have h2:=not_or.1 h2
  have b1 : inZ s.last 1 60 = true:=by simpa using h2.1
  have b2 : s.ways.all (fun w=>inZ w.2.2 1 20) = true:=by simpa using h2.2
  have b3 : s.looks.all (fun l=>l.2.all fun n=>inZ n 0 3) = true:=by simpa using h3
  have h4:=not_or.1 h4
  have h4':=not_or.1 h4.2
  have c1 : plB s s.home = true:=by simpa using h4.1
  have c2 : plB s s.bed = true:=by simpa using h4'.1
  have c3 : s.ways.all (fun w=>plB s w.1 && plB s w.2.1) = true:=by simpa using h4'.2
  unfold plB at c1 c2
  rw [zr] at b1 c1 c2
  rw [List.all_eq_true] at b2 b3 c3
  have h6 : agnB s = false:=by simpa using h6
  unfold agnB at h6
  rw [List.any_eq_false] at h6
  rw [kP] at h
  refine ⟨a1.1,a1.2,by omega,by omega,by omega,by omega,a5,a6,b1.1,b1.2,fun w hw=>zr.1 (b2 w hw),fun l hl n hn=>zr.1 (List.all_eq_true.1 (b3 l hl) n hn),by omega,by omega,fun w hw=>?_,h5,fun i hi=>by simpa using h6 i (List.mem_range.2 hi),fun t ht r hr=>?_⟩
  ·have:=c3 w hw
   unfold plB at this
   rw [Bool.and_eq_true,zr,zr] at this
   omega
  ·have:=h _ (List.mem_map_of_mem ht)
   unfold trE at this
   rw [kP] at this
   exact this _ (List.mem_map_of_mem (f:=fun r : Sps=>spE s.last none r.2) hr)
 ·intro o
  have a1:=o.p1;have a2:=o.p2;have a3:=o.t1;have a4:=o.t2;have a5:=o.w1;have a6:=o.k1;have a7:=o.l1;have a8:=o.l2;have a9:=o.h1;have a10:=o.b1
  have c1 : cntB s = true:=by
   unfold cntB
   simp only [Bool.and_eq_true,zr,decide_eq_true_eq,List.all_eq_true]
   exact ⟨⟨⟨⟨⟨⟨a1,a2⟩,by omega,by omega⟩,by omega⟩,by omega⟩,o.kl⟩,o.tl⟩
  have c2 : s.ways.all (fun w=>inZ w.2.2 1 20) = true:=List.all_eq_true.2 fun w hw=>zr.2 (o.wm w hw)
  have c3 : s.looks.all (fun l=>l.2.all fun n=>inZ n 0 3) = true:=List.all_eq_true.2 fun l hl=>List.all_eq_true.2 fun n hn=>zr.2 (o.kn l hl n hn)
  have c4 : s.ways.all (fun w=>plB s w.1 && plB s w.2.1) = true:=List.all_eq_true.2 fun w hw=>by
   have:=o.wp w hw
   unfold plB
   rw [Bool.and_eq_true,zr,zr]
   omega
  have c5 : agnB s = false:=by
   unfold agnB
   rw [List.any_eq_false]
   intro i hi
   rw [o.wa i (List.mem_range.1 hi)];simp
  rw [if_neg (by rw [c1];simp),if_neg (by rw [zr.2 ⟨a7,a8⟩,c2];simp),if_neg (by rw [c3];simp),if_neg (by unfold plB;rw [zr.2 ⟨a9.1,by omega⟩,zr.2 ⟨a10.1,by omega⟩];unfold plB at c4;rw [c4];simp),if_neg o.hb,if_neg (by rw [c5];simp),kP]
  intro e he
  obtain ⟨t,ht,rfl⟩:=List.mem_map.1 he
  unfold trE
  rw [kP]
  intro e he
  obtain ⟨r,hr,rfl⟩:=List.mem_map.1 he
  exact o.sp t ht r hr
theorem spE_ok {last : Int} : ∀ {l : List (Int × Int)} {pv : Option Int},spE last pv l = 0 -> ∀ x ∈ l,0 <= x.1 /\ x.1 <= x.2 /\ x.2 <= last
 | [],_,_,x,hx=>by cases hx
 | y :: l,pv,h,x,hx=>by
   rw [spE] at h
   split at h
   ·cases h
   ·rename_i h1
    split at h
    ·cases h
    ·rcases List.mem_cons.1 hx with rfl | hx
     ·have h1 : (inZ x.1 0 last && inZ x.2 x.1 last) = true:=by simpa using h1
      rw [Bool.and_eq_true,zr,zr] at h1
      omega
     ·exact spE_ok h x hx
end GA
end
section
namespace GA
open Go Go.RowKit Go.Proofs
theorem ziL {n : Nat} (x : Int) : (AV.int .i64 x).low n = true:=rfl
theorem idxf_zi (nl : Bool) (xs : List Int) (g : FuncId) (caps : List AV) (p : Int -> Bool) (hl : lowL 0 caps = true) (hx : xs.length <= 100000) (hp : ∀ x ∈ xs,Comp Tryz.prog g ((AV.int .i64 x) :: caps) (.bool (p x))) :
  Comp Tryz.prog 367 [.sl nl (xs.map (AV.int .i64)),.fn g caps] (.int .i64 (idxR p xs)):=by
 refine Comp.body (T:=tab) (res:=[.tmp 4]) za [] Tryz.func367 rfl (by kernel_rfl) Tryz.ntmps367 rfl (by simp only [List.length_cons,List.length_nil];decide) (by simp only [lowL,AV.low,lowI,hl];rfl) ?_;conv=>whnf
 refine Walk.loop za [] (fun i : Nat=>i <= xs.length /\ ∀ j,j < i -> p (xs.getD j default) = false) (fun i=>[(0,.sl nl (xs.map (AV.int .i64))),(1,.fn g caps),(7,.int .i64 xs.length),(8,.int .i64 i)]) (fun _=>[]) (fun i=>xs.length - i) 0 ⟨by omega,by omega⟩ rfl ⟨rfl,rfl,by simp only [List.length_map];rfl,rfl,trivial⟩ ?_
 rintro i ⟨h2,h3⟩
 conv=>whnf
 repeat' first|((with_reducible first|refine XBr.y fun h=>?_|refine XBr.n fun h=>?_|refine XBr.dec (fun h=>?_) fun h=>?_) <;> conv=>whnf)|(refine XIx.a ?_;conv=>whnf)|fail
 ·refine zb.ret (hp _ (zk (i:=i) (d:=default) (by omega))) ?_
  conv=>whnf
  refine XBr.mk' ?_ ?_ <;> intro h4 <;> (conv=>whnf)
  ·refine XOut.int ?_
   simp only [idxR,km (d:=default) (i:=i) (by omega) h4 h3]
  ·skip
   repeat' ((with_reducible refine XInt.a ?_);conv=>whnf)
   refine zj.go (i + 1) ⟨by omega,fun j hj=>?_⟩ (by omega) rfl ⟨rfl,rfl,rfl,rfl,trivial⟩
   by_cases hji : j = i
   ·subst hji;exact h4
   ·exact h3 j (by omega)
 ·refine XOut.int ?_
  simp only [idxR,kk (d:=default) fun j hj=>h3 j (by omega)]
theorem contf_zi (nl : Bool) (xs : List Int) (g : FuncId) (caps : List AV) (p : Int -> Bool) (hl : lowL 0 caps = true) (hx : xs.length <= 100000) (hp : ∀ x ∈ xs,Comp Tryz.prog g ((AV.int .i64 x) :: caps) (.bool (p x))) :
  Comp Tryz.prog 273 [.sl nl (xs.map (AV.int .i64)),.fn g caps] (.bool (xs.any p)):=by
 refine Comp.body (T:=tab) (res:=[.tmp 4]) za [] Tryz.func273 rfl (by kernel_rfl) Tryz.ntmps273 rfl (by simp only [List.length_cons,List.length_nil];decide) (by simp only [lowL,AV.low,lowI,hl];rfl) ?_;conv=>whnf
 refine zb.ret (idxf_zi nl xs g caps p hl hx hp) ?_
 conv=>whnf
 refine XOut.bool ?_
 rw [Bool.eq_iff_iff,decide_eq_true_eq];exact kW
theorem every1_zi (x : Int) (g : FuncId) (caps : List AV) (p : Int -> Bool) (hl : lowL 0 caps = true) (hp : Comp Tryz.prog g ((AV.int .i64 x) :: caps) (.bool (p x))) :
  Comp Tryz.prog 274 [(AV.int .i64 x),.pim [.fn g caps]] (.bool (!p x)):=by
 refine Comp.body (T:=tab) (res:=[.tmp 3]) za [] Tryz.func274 rfl (by kernel_rfl) Tryz.ntmps274 rfl (by simp only [List.length_cons,List.length_nil];decide) (by simp only [lowL,AV.low,ziL,hl];rfl) ?_;conv=>whnf
 refine zb.ret hp ?_
 conv=>whnf
 exact XOut.bool rfl
theorem zck (nl : Bool) (xs : List Int) (g : FuncId) (caps : List AV) (p : Int -> Bool) (hl : lowL 0 caps = true) (hx : xs.length <= 100000) (hp : ∀ x ∈ xs,Comp Tryz.prog g ((AV.int .i64 x) :: caps) (.bool (p x))) :
  Comp Tryz.prog 114 [.sl nl (xs.map (AV.int .i64)),.fn g caps] (.bool (xs.all p)):=by
 refine Comp.body (T:=tab) (res:=[.tmp 4]) za [] Tryz.func114 rfl (by kernel_rfl) Tryz.ntmps114 rfl (by simp only [List.length_cons,List.length_nil];decide) (by simp only [lowL,AV.low,lowI,hl];rfl) ?_;conv=>whnf
 refine zb.ret (contf_zi nl xs 274 [.pim [.fn g caps]] (fun x=>!p x) (by simp only [lowL,AV.low,hl];rfl) hx fun x hm=>every1_zi x g caps p hl (hp x hm)) ?_
 conv=>whnf
 refine XOut.bool ?_
 rw [List.not_any_eq_all_not];simp
theorem idxf_wy (nl : Bool) (xs : List Wy) (g : FuncId) (caps : List AV) (p : Wy -> Bool) (hl : lowL 0 caps = true) (hx : xs.length <= 100000) (hp : ∀ x ∈ xs,Comp Tryz.prog g ((wyA x) :: caps) (.bool (p x))) :
  Comp Tryz.prog 275 [.sl nl (xs.map (wyA)),.fn g caps] (.int .i64 (idxR p xs)):=by
 refine Comp.body (T:=tab) (res:=[.tmp 4]) za [] Tryz.func275 rfl (by kernel_rfl) Tryz.ntmps275 rfl (by simp only [List.length_cons,List.length_nil];decide) (by simp only [lowL,AV.low,yB,hl];rfl) ?_;conv=>whnf
 refine Walk.loop za [] (fun i : Nat=>i <= xs.length /\ ∀ j,j < i -> p (xs.getD j default) = false) (fun i=>[(0,.sl nl (xs.map (wyA))),(1,.fn g caps),(7,.int .i64 xs.length),(8,.int .i64 i)]) (fun _=>[]) (fun i=>xs.length - i) 0 ⟨by omega,by omega⟩ rfl ⟨rfl,rfl,by simp only [List.length_map];rfl,rfl,trivial⟩ ?_
 rintro i ⟨h2,h3⟩
 conv=>whnf
 repeat' first|((with_reducible first|refine XBr.y fun h=>?_|refine XBr.n fun h=>?_|refine XBr.dec (fun h=>?_) fun h=>?_) <;> conv=>whnf)|(refine XIx.a ?_;conv=>whnf)|fail
 ·refine zb.ret (hp _ (zk (i:=i) (d:=default) (by omega))) ?_
  conv=>whnf
  refine XBr.mk' ?_ ?_ <;> intro h4 <;> (conv=>whnf)
  ·refine XOut.int ?_
   simp only [idxR,km (d:=default) (i:=i) (by omega) h4 h3]
  ·skip
   repeat' ((with_reducible refine XInt.a ?_);conv=>whnf)
   refine zj.go (i + 1) ⟨by omega,fun j hj=>?_⟩ (by omega) rfl ⟨rfl,rfl,rfl,rfl,trivial⟩
   by_cases hji : j = i
   ·subst hji;exact h4
   ·exact h3 j (by omega)
 ·refine XOut.int ?_
  simp only [idxR,kk (d:=default) fun j hj=>h3 j (by omega)]
theorem zcC (nl : Bool) (xs : List Wy) (g : FuncId) (caps : List AV) (p : Wy -> Bool) (hl : lowL 0 caps = true) (hx : xs.length <= 100000) (hp : ∀ x ∈ xs,Comp Tryz.prog g ((wyA x) :: caps) (.bool (p x))) :
  Comp Tryz.prog 118 [.sl nl (xs.map (wyA)),.fn g caps] (.bool (xs.any p)):=by
 refine Comp.body (T:=tab) (res:=[.tmp 4]) za [] Tryz.func118 rfl (by kernel_rfl) Tryz.ntmps118 rfl (by simp only [List.length_cons,List.length_nil];decide) (by simp only [lowL,AV.low,yB,hl];rfl) ?_;conv=>whnf
 refine zb.ret (idxf_wy nl xs g caps p hl hx hp) ?_
 conv=>whnf
 refine XOut.bool ?_
 rw [Bool.eq_iff_iff,decide_eq_true_eq];exact kW
theorem every1_wy (x : Wy) (g : FuncId) (caps : List AV) (p : Wy -> Bool) (hl : lowL 0 caps = true) (hp : Comp Tryz.prog g ((wyA x) :: caps) (.bool (p x))) :
  Comp Tryz.prog 270 [(wyA x),.pim [.fn g caps]] (.bool (!p x)):=by
 refine Comp.body (T:=tab) (res:=[.tmp 3]) za [] Tryz.func270 rfl (by kernel_rfl) Tryz.ntmps270 rfl (by simp only [List.length_cons,List.length_nil];decide) (by simp only [lowL,AV.low,wyL,hl];rfl) ?_;conv=>whnf
 refine zb.ret hp ?_
 conv=>whnf
 exact XOut.bool rfl
theorem zc0 (nl : Bool) (xs : List Wy) (g : FuncId) (caps : List AV) (p : Wy -> Bool) (hl : lowL 0 caps = true) (hx : xs.length <= 100000) (hp : ∀ x ∈ xs,Comp Tryz.prog g ((wyA x) :: caps) (.bool (p x))) :
  Comp Tryz.prog 110 [.sl nl (xs.map (wyA)),.fn g caps] (.bool (xs.all p)):=by
 refine Comp.body (T:=tab) (res:=[.tmp 4]) za [] Tryz.func110 rfl (by kernel_rfl) Tryz.ntmps110 rfl (by simp only [List.length_cons,List.length_nil];decide) (by simp only [lowL,AV.low,yB,hl];rfl) ?_;conv=>whnf
 refine zb.ret (zcC nl xs 270 [.pim [.fn g caps]] (fun x=>!p x) (by simp only [lowL,AV.low,hl];rfl) hx fun x hm=>every1_wy x g caps p hl (hp x hm)) ?_
 conv=>whnf
 refine XOut.bool ?_
 rw [List.not_any_eq_all_not];simp
theorem idxf_rw (nl : Bool) (xs : List Rw) (g : FuncId) (caps : List AV) (p : Rw -> Bool) (hl : lowL 0 caps = true) (hx : xs.length <= 100000) (hp : ∀ x ∈ xs,Comp Tryz.prog g ((rwA x) :: caps) (.bool (p x))) :
  Comp Tryz.prog 366 [.sl nl (xs.map (rwA)),.fn g caps] (.int .i64 (idxR p xs)):=by
 refine Comp.body (T:=tab) (res:=[.tmp 4]) za [] Tryz.func366 rfl (by kernel_rfl) Tryz.ntmps366 rfl (by simp only [List.length_cons,List.length_nil];decide) (by simp only [lowL,AV.low,yP,hl];rfl) ?_;conv=>whnf
 refine Walk.loop za [] (fun i : Nat=>i <= xs.length /\ ∀ j,j < i -> p (xs.getD j default) = false) (fun i=>[(0,.sl nl (xs.map (rwA))),(1,.fn g caps),(7,.int .i64 xs.length),(8,.int .i64 i)]) (fun _=>[]) (fun i=>xs.length - i) 0 ⟨by omega,by omega⟩ rfl ⟨rfl,rfl,by simp only [List.length_map];rfl,rfl,trivial⟩ ?_
 rintro i ⟨h2,h3⟩
 conv=>whnf
 repeat' first|((with_reducible first|refine XBr.y fun h=>?_|refine XBr.n fun h=>?_|refine XBr.dec (fun h=>?_) fun h=>?_) <;> conv=>whnf)|(refine XIx.a ?_;conv=>whnf)|fail
 ·refine zb.ret (hp _ (zk (i:=i) (d:=default) (by omega))) ?_
  conv=>whnf
  refine XBr.mk' ?_ ?_ <;> intro h4 <;> (conv=>whnf)
  ·refine XOut.int ?_
   simp only [idxR,km (d:=default) (i:=i) (by omega) h4 h3]
  ·skip
   repeat' ((with_reducible refine XInt.a ?_);conv=>whnf)
   refine zj.go (i + 1) ⟨by omega,fun j hj=>?_⟩ (by omega) rfl ⟨rfl,rfl,rfl,rfl,trivial⟩
   by_cases hji : j = i
   ·subst hji;exact h4
   ·exact h3 j (by omega)
 ·refine XOut.int ?_
  simp only [idxR,kk (d:=default) fun j hj=>h3 j (by omega)]
theorem contf_rw (nl : Bool) (xs : List Rw) (g : FuncId) (caps : List AV) (p : Rw -> Bool) (hl : lowL 0 caps = true) (hx : xs.length <= 100000) (hp : ∀ x ∈ xs,Comp Tryz.prog g ((rwA x) :: caps) (.bool (p x))) :
  Comp Tryz.prog 271 [.sl nl (xs.map (rwA)),.fn g caps] (.bool (xs.any p)):=by
 refine Comp.body (T:=tab) (res:=[.tmp 4]) za [] Tryz.func271 rfl (by kernel_rfl) Tryz.ntmps271 rfl (by simp only [List.length_cons,List.length_nil];decide) (by simp only [lowL,AV.low,yP,hl];rfl) ?_;conv=>whnf
 refine zb.ret (idxf_rw nl xs g caps p hl hx hp) ?_
 conv=>whnf
 refine XOut.bool ?_
 rw [Bool.eq_iff_iff,decide_eq_true_eq];exact kW
theorem every1_rw (x : Rw) (g : FuncId) (caps : List AV) (p : Rw -> Bool) (hl : lowL 0 caps = true) (hp : Comp Tryz.prog g ((rwA x) :: caps) (.bool (p x))) :
  Comp Tryz.prog 272 [(rwA x),.pim [.fn g caps]] (.bool (!p x)):=by
 refine Comp.body (T:=tab) (res:=[.tmp 3]) za [] Tryz.func272 rfl (by kernel_rfl) Tryz.ntmps272 rfl (by simp only [List.length_cons,List.length_nil];decide) (by simp only [lowL,AV.low,rwL,hl];rfl) ?_;conv=>whnf
 refine zb.ret hp ?_
 conv=>whnf
 exact XOut.bool rfl
theorem vR (nl : Bool) (xs : List Rw) (g : FuncId) (caps : List AV) (p : Rw -> Bool) (hl : lowL 0 caps = true) (hx : xs.length <= 100000) (hp : ∀ x ∈ xs,Comp Tryz.prog g ((rwA x) :: caps) (.bool (p x))) :
  Comp Tryz.prog 112 [.sl nl (xs.map (rwA)),.fn g caps] (.bool (xs.all p)):=by
 refine Comp.body (T:=tab) (res:=[.tmp 4]) za [] Tryz.func112 rfl (by kernel_rfl) Tryz.ntmps112 rfl (by simp only [List.length_cons,List.length_nil];decide) (by simp only [lowL,AV.low,yP,hl];rfl) ?_;conv=>whnf
 refine zb.ret (contf_rw nl xs 272 [.pim [.fn g caps]] (fun x=>!p x) (by simp only [lowL,AV.low,hl];rfl) hx fun x hm=>every1_rw x g caps p hl (hp x hm)) ?_
 conv=>whnf
 refine XOut.bool ?_
 rw [List.not_any_eq_all_not];simp
theorem idxf_tr (nl : Bool) (xs : List Tru) (g : FuncId) (caps : List AV) (p : Tru -> Bool) (hl : lowL 0 caps = true) (hx : xs.length <= 100000) (hp : ∀ x ∈ xs,Comp Tryz.prog g ((trA x) :: caps) (.bool (p x))) :
  Comp Tryz.prog 407 [.sl nl (xs.map (trA)),.fn g caps] (.int .i64 (idxR p xs)):=by
 refine Comp.body (T:=tab) (res:=[.tmp 4]) za [] Tryz.func407 rfl (by kernel_rfl) Tryz.ntmps407 rfl (by simp only [List.length_cons,List.length_nil];decide) (by simp only [lowL,AV.low,yO,hl];rfl) ?_;conv=>whnf
 refine Walk.loop za [] (fun i : Nat=>i <= xs.length /\ ∀ j,j < i -> p (xs.getD j default) = false) (fun i=>[(0,.sl nl (xs.map (trA))),(1,.fn g caps),(7,.int .i64 xs.length),(8,.int .i64 i)]) (fun _=>[]) (fun i=>xs.length - i) 0 ⟨by omega,by omega⟩ rfl ⟨rfl,rfl,by simp only [List.length_map];rfl,rfl,trivial⟩ ?_
 rintro i ⟨h2,h3⟩
 conv=>whnf
 repeat' first|((with_reducible first|refine XBr.y fun h=>?_|refine XBr.n fun h=>?_|refine XBr.dec (fun h=>?_) fun h=>?_) <;> conv=>whnf)|(refine XIx.a ?_;conv=>whnf)|fail
 ·refine zb.ret (hp _ (zk (i:=i) (d:=default) (by omega))) ?_
  conv=>whnf
  refine XBr.mk' ?_ ?_ <;> intro h4 <;> (conv=>whnf)
  ·refine XOut.int ?_
   simp only [idxR,km (d:=default) (i:=i) (by omega) h4 h3]
  ·skip
   repeat' ((with_reducible refine XInt.a ?_);conv=>whnf)
   refine zj.go (i + 1) ⟨by omega,fun j hj=>?_⟩ (by omega) rfl ⟨rfl,rfl,rfl,rfl,trivial⟩
   by_cases hji : j = i
   ·subst hji;exact h4
   ·exact h3 j (by omega)
 ·refine XOut.int ?_
  simp only [idxR,kk (d:=default) fun j hj=>h3 j (by omega)]
theorem contf_tr (nl : Bool) (xs : List Tru) (g : FuncId) (caps : List AV) (p : Tru -> Bool) (hl : lowL 0 caps = true) (hx : xs.length <= 100000) (hp : ∀ x ∈ xs,Comp Tryz.prog g ((trA x) :: caps) (.bool (p x))) :
  Comp Tryz.prog 364 [.sl nl (xs.map (trA)),.fn g caps] (.bool (xs.any p)):=by
 refine Comp.body (T:=tab) (res:=[.tmp 4]) za [] Tryz.func364 rfl (by kernel_rfl) Tryz.ntmps364 rfl (by simp only [List.length_cons,List.length_nil];decide) (by simp only [lowL,AV.low,yO,hl];rfl) ?_;conv=>whnf
 refine zb.ret (idxf_tr nl xs g caps p hl hx hp) ?_
 conv=>whnf
 refine XOut.bool ?_
 rw [Bool.eq_iff_iff,decide_eq_true_eq];exact kW
theorem every1_tr (x : Tru) (g : FuncId) (caps : List AV) (p : Tru -> Bool) (hl : lowL 0 caps = true) (hp : Comp Tryz.prog g ((trA x) :: caps) (.bool (p x))) :
  Comp Tryz.prog 365 [(trA x),.pim [.fn g caps]] (.bool (!p x)):=by
 refine Comp.body (T:=tab) (res:=[.tmp 3]) za [] Tryz.func365 rfl (by kernel_rfl) Tryz.ntmps365 rfl (by simp only [List.length_cons,List.length_nil];decide) (by simp only [lowL,AV.low,trL,hl];rfl) ?_;conv=>whnf
 refine zb.ret hp ?_
 conv=>whnf
 exact XOut.bool rfl
theorem every_tr (nl : Bool) (xs : List Tru) (g : FuncId) (caps : List AV) (p : Tru -> Bool) (hl : lowL 0 caps = true) (hx : xs.length <= 100000) (hp : ∀ x ∈ xs,Comp Tryz.prog g ((trA x) :: caps) (.bool (p x))) :
  Comp Tryz.prog 268 [.sl nl (xs.map (trA)),.fn g caps] (.bool (xs.all p)):=by
 refine Comp.body (T:=tab) (res:=[.tmp 4]) za [] Tryz.func268 rfl (by kernel_rfl) Tryz.ntmps268 rfl (by simp only [List.length_cons,List.length_nil];decide) (by simp only [lowL,AV.low,yO,hl];rfl) ?_;conv=>whnf
 refine zb.ret (contf_tr nl xs 365 [.pim [.fn g caps]] (fun x=>!p x) (by simp only [lowL,AV.low,hl];rfl) hx fun x hm=>every1_tr x g caps p hl (hp x hm)) ?_
 conv=>whnf
 refine XOut.bool ?_
 rw [List.not_any_eq_all_not];simp
theorem staL {n : Nat} (x : Sta) : (staA x).low n = true:=rfl
theorem yb {n : Nat} (xs : List Sta) : lowL n (xs.map staA) = true:=yr (fun _=>rfl) xs
theorem idxf_sg (nl : Bool) (xs : List (Int × Int)) (g : FuncId) (caps : List AV) (p : (Int × Int) -> Bool) (hl : lowL 0 caps = true) (hx : xs.length <= 100000) (hp : ∀ x ∈ xs,Comp Tryz.prog g ((sgA x) :: caps) (.bool (p x))) :
  Comp Tryz.prog 402 [.sl nl (xs.map (sgA)),.fn g caps] (.int .i64 (idxR p xs)):=by
 refine Comp.body (T:=tab) (res:=[.tmp 4]) za [] Tryz.func402 rfl (by kernel_rfl) Tryz.ntmps402 rfl (by simp only [List.length_cons,List.length_nil];decide) (by simp only [lowL,AV.low,zN,hl];rfl) ?_;conv=>whnf
 refine Walk.loop za [] (fun i : Nat=>i <= xs.length /\ ∀ j,j < i -> p (xs.getD j default) = false) (fun i=>[(0,.sl nl (xs.map (sgA))),(1,.fn g caps),(7,.int .i64 xs.length),(8,.int .i64 i)]) (fun _=>[]) (fun i=>xs.length - i) 0 ⟨by omega,by omega⟩ rfl ⟨rfl,rfl,by simp only [List.length_map];rfl,rfl,trivial⟩ ?_
 rintro i ⟨h2,h3⟩
 conv=>whnf
 repeat' first|((with_reducible first|refine XBr.y fun h=>?_|refine XBr.n fun h=>?_|refine XBr.dec (fun h=>?_) fun h=>?_) <;> conv=>whnf)|(refine XIx.a ?_;conv=>whnf)|fail
 ·refine zb.ret (hp _ (zk (i:=i) (d:=default) (by omega))) ?_
  conv=>whnf
  refine XBr.mk' ?_ ?_ <;> intro h4 <;> (conv=>whnf)
  ·refine XOut.int ?_
   simp only [idxR,km (d:=default) (i:=i) (by omega) h4 h3]
  ·skip
   repeat' ((with_reducible refine XInt.a ?_);conv=>whnf)
   refine zj.go (i + 1) ⟨by omega,fun j hj=>?_⟩ (by omega) rfl ⟨rfl,rfl,rfl,rfl,trivial⟩
   by_cases hji : j = i
   ·subst hji;exact h4
   ·exact h3 j (by omega)
 ·refine XOut.int ?_
  simp only [idxR,kk (d:=default) fun j hj=>h3 j (by omega)]
theorem contf_sg (nl : Bool) (xs : List (Int × Int)) (g : FuncId) (caps : List AV) (p : (Int × Int) -> Bool) (hl : lowL 0 caps = true) (hx : xs.length <= 100000) (hp : ∀ x ∈ xs,Comp Tryz.prog g ((sgA x) :: caps) (.bool (p x))) :
  Comp Tryz.prog 353 [.sl nl (xs.map (sgA)),.fn g caps] (.bool (xs.any p)):=by
 refine Comp.body (T:=tab) (res:=[.tmp 4]) za [] Tryz.func353 rfl (by kernel_rfl) Tryz.ntmps353 rfl (by simp only [List.length_cons,List.length_nil];decide) (by simp only [lowL,AV.low,zN,hl];rfl) ?_;conv=>whnf
 refine zb.ret (idxf_sg nl xs g caps p hl hx hp) ?_
 conv=>whnf
 refine XOut.bool ?_
 rw [Bool.eq_iff_iff,decide_eq_true_eq];exact kW
theorem zcb (nl : Bool) (xs : List Sta) (g : FuncId) (caps : List AV) (p : Sta -> Bool) (hl : lowL 0 caps = true) (hx : xs.length <= 100000) (hp : ∀ x ∈ xs,Comp Tryz.prog g ((staA x) :: caps) (.bool (p x))) :
  Comp Tryz.prog 250 [.sl nl (xs.map (staA)),.fn g caps] (.int .i64 (idxR p xs)):=by
 refine Comp.body (T:=tab) (res:=[.tmp 4]) za [] Tryz.func250 rfl (by kernel_rfl) Tryz.ntmps250 rfl (by simp only [List.length_cons,List.length_nil];decide) (by simp only [lowL,AV.low,yb,hl];rfl) ?_;conv=>whnf
 refine Walk.loop za [] (fun i : Nat=>i <= xs.length /\ ∀ j,j < i -> p (xs.getD j default) = false) (fun i=>[(0,.sl nl (xs.map (staA))),(1,.fn g caps),(7,.int .i64 xs.length),(8,.int .i64 i)]) (fun _=>[]) (fun i=>xs.length - i) 0 ⟨by omega,by omega⟩ rfl ⟨rfl,rfl,by simp only [List.length_map];rfl,rfl,trivial⟩ ?_
 rintro i ⟨h2,h3⟩
 conv=>whnf
 repeat' first|((with_reducible first|refine XBr.y fun h=>?_|refine XBr.n fun h=>?_|refine XBr.dec (fun h=>?_) fun h=>?_) <;> conv=>whnf)|(refine XIx.a ?_;conv=>whnf)|fail
 ·refine zb.ret (hp _ (zk (i:=i) (d:=default) (by omega))) ?_
  conv=>whnf
  refine XBr.mk' ?_ ?_ <;> intro h4 <;> (conv=>whnf)
  ·refine XOut.int ?_
   simp only [idxR,km (d:=default) (i:=i) (by omega) h4 h3]
  ·skip
   repeat' ((with_reducible refine XInt.a ?_);conv=>whnf)
   refine zj.go (i + 1) ⟨by omega,fun j hj=>?_⟩ (by omega) rfl ⟨rfl,rfl,rfl,rfl,trivial⟩
   by_cases hji : j = i
   ·subst hji;exact h4
   ·exact h3 j (by omega)
 ·refine XOut.int ?_
  simp only [idxR,kk (d:=default) fun j hj=>h3 j (by omega)]
theorem contf_sta (nl : Bool) (xs : List Sta) (g : FuncId) (caps : List AV) (p : Sta -> Bool) (hl : lowL 0 caps = true) (hx : xs.length <= 100000) (hp : ∀ x ∈ xs,Comp Tryz.prog g ((staA x) :: caps) (.bool (p x))) :
  Comp Tryz.prog 403 [.sl nl (xs.map (staA)),.fn g caps] (.bool (xs.any p)):=by
 refine Comp.body (T:=tab) (res:=[.tmp 4]) za [] Tryz.func403 rfl (by kernel_rfl) Tryz.ntmps403 rfl (by simp only [List.length_cons,List.length_nil];decide) (by simp only [lowL,AV.low,yb,hl];rfl) ?_;conv=>whnf
 refine zb.ret (zcb nl xs g caps p hl hx hp) ?_
 conv=>whnf
 refine XOut.bool ?_
 rw [Bool.eq_iff_iff,decide_eq_true_eq];exact kW
theorem zb6 (x : Sta) (g : FuncId) (fs : List AV) (p : Sta -> Bool) (hl : lowL 0 fs = true) (hp : Comp Tryz.prog g (fs ++ [(staA x)]) (.bool (p x))) :
  Comp Tryz.prog 404 [(staA x),.pim [.bf g fs]] (.bool (!p x)):=by
 refine Comp.body (T:=tab) (res:=[.tmp 3]) za [] Tryz.func404 rfl (by kernel_rfl) Tryz.ntmps404 rfl (by simp only [List.length_cons,List.length_nil];decide) (by simp only [lowL,AV.low,staL,hl];rfl) ?_;conv=>whnf
 refine zb.ret hp ?_
 conv=>whnf
 exact XOut.bool rfl
theorem zdg (nl : Bool) (xs : List Sta) (g : FuncId) (fs : List AV) (p : Sta -> Bool) (hl : lowL 0 fs = true) (hx : xs.length <= 100000) (hp : ∀ x ∈ xs,Comp Tryz.prog g (fs ++ [(staA x)]) (.bool (p x))) :
  Comp Tryz.prog 355 [.sl nl (xs.map (staA)),.bf g fs] (.bool (xs.all p)):=by
 refine Comp.body (T:=tab) (res:=[.tmp 4]) za [] Tryz.func355 rfl (by kernel_rfl) Tryz.ntmps355 rfl (by simp only [List.length_cons,List.length_nil];decide) (by simp only [lowL,AV.low,yb,hl];rfl) ?_;conv=>whnf
 refine zb.ret (contf_sta nl xs 404 [.pim [.bf g fs]] (fun x=>!p x) (by simp only [lowL,AV.low,hl];rfl) hx fun x hm=>zb6 x g fs p hl (hp x hm)) ?_
 conv=>whnf
 refine XOut.bool ?_
 rw [List.not_any_eq_all_not];simp
end GA
end
section
namespace GA
open Go Go.RowKit Go.Proofs
theorem ka (n lo hi : Int) : Comp Tryz.prog 109 [.int .i64 n,.int .i64 lo,.int .i64 hi] (.bool (inZ n lo hi)):=by
 refine Comp.body (T:=tab) (res:=[.tmp 6]) za [] Tryz.func109 rfl (by kernel_rfl) Tryz.ntmps109 rfl (by simp only [List.length_cons,List.length_nil];decide) (by rfl) ?_;conv=>whnf
 repeat' ((with_reducible first|apply XBr.tt|apply XBr.ff|refine XBr.y fun h=>?_|refine XBr.n fun h=>?_|refine XBr.dec (fun h=>?_) fun h=>?_) <;> conv=>whnf)
 all_goals (refine XOut.bool ?_;rw [Bool.eq_iff_iff];simp [inZ];try omega)
theorem vp (s : Sn) (p : Int) (h1 : 1 <= s.places) (h2 : s.places <= 5) : Comp Tryz.prog 116 [snA s,.int .i64 p] (.bool (plB s p)):=by
 refine Comp.body (T:=tab) (res:=[.tmp 4]) za [] Tryz.func116 rfl (by kernel_rfl) Tryz.ntmps116 rfl (by simp only [List.length_cons,List.length_nil];decide) (by simp only [lowL,snL];rfl) ?_;conv=>whnf
 repeat' first|((first|(with_reducible refine XInt.a ?_)|(refine zb.ret (ka _ _ _) ?_));conv=>whnf)|fail
 exact XOut.bool rfl
def pvO (l : List (Int × Int)) : Nat -> Option Int
 | 0=>none
 | k + 1=>some (l.getD k default).2
theorem spans_c (s : Sn) (nl : Bool) (l : List (Int × Int)) (hl : l.length <= 100000) (q2 : s.last <= 60) : Comp Tryz.prog 120 [snA s,.sl nl (l.map sgA)] (.int .i64 (spE s.last none l)):=by
 have e1 : ((l.map sgA).length : Int) = l.length:=by rw [List.length_map]
 refine Comp.body (T:=tab) (res:=[.tmp 4]) za [] Tryz.func120 rfl (by kernel_rfl) Tryz.ntmps120 rfl (by simp only [List.length_cons,List.length_nil];decide) (by simp only [lowL,AV.low,snL,zN];rfl) ?_;conv=>whnf
 skip
 refine Walk.loopGK za [] [(1,_),(2,_),(7,_),(8,_)] ⟨rfl,rfl,rfl,rfl,trivial⟩ (fun k : Nat=>k <= l.length /\ spE s.last none l = spE s.last (pvO l k) (l.drop k) /\ ∀ j,j < k -> (l.getD j default).2 <= 60 /\ 0 <= (l.getD j default).2) (fun k=>[(9,natA k)]) (fun _=>[]) (fun k=>l.length - k) 0 ⟨Nat.zero_le _,rfl,fun j hj=>by omega⟩ rfl ⟨rfl,trivial⟩ ?_ (fun _ _=>Nat.le_refl _) ?_
 ·intro k _
  refine ⟨by simp,fun z hz=>?_⟩
  simp only [List.cons_append,List.nil_append,List.mem_cons,List.not_mem_nil,or_false] at hz
  rcases hz with rfl | rfl | rfl | rfl | rfl <;> first | rfl|exact zN _|exact snL s|exact snCL s
 rintro k ⟨hk,hs,hb⟩
 conv=>whnf
 by_cases hlt : k < l.length
 ·rw [kj hlt,spE] at hs
  have hok : (inZ (l.getD k default).1 0 s.last && inZ (l.getD k default).2 (l.getD k default).1 s.last) = true -> ∀ j,j < k + 1 -> (l.getD j default).2 <= 60 /\ 0 <= (l.getD j default).2:=fun h j hj=>by
   by_cases e : j = k
   ·subst e;rw [Bool.and_eq_true,zr,zr] at h;omega
   ·exact hb j (by omega)
  rcases Nat.eq_zero_or_pos k with rfl | hk0
  ·have hq : gc (pvO l 0) (l.getD 0 default).1 = false:=rfl
   rw [hq] at hs
   repeat' first|((with_reducible first|apply XBr.tt|apply XBr.ff|refine XBr.y fun h=>?_|refine XBr.n fun h=>?_|refine XBr.dec (fun h=>?_) fun h=>?_|refine XInt.a ?_|apply Chk.go|apply ChkA.go|apply ChkF.go|apply ChkB.go|apply zq.mk) <;> conv=>whnf)|(refine XIx.a ?_;conv=>whnf)|(with_reducible first|apply XBr.not|apply XAnd.mk|exact trivial)|(exact zg.mk rfl rfl)|(apply Walk.drawN (id:=6) za zd [] [] (hsU _) [_,_,_,_,_,_,_,_,_,_,_,_,_,_] (by kernel_rfl) rfl)|((refine zb.ret (ka _ _ _) ?_);conv=>whnf)|((with_reducible refine XBr.mk' (fun h=>?_) fun h=>?_) <;> conv=>whnf)|fail
   all_goals first
    | (refine XOut.int ?_;rw [hs,if_pos (by simp_all)];done)
    | (refine zl.go 1 [.cells (sgA (l.getD 0 default)).cells] ⟨by omega,?_,hok (by simp_all)⟩ (by omega) rfl ⟨rfl,rfl,rfl,rfl,rfl,trivial⟩;rw [hs,if_neg (by simp_all),if_neg (by simp)];rfl)
  ·have hp:=hb ((k : Int) - 1).toNat (by omega)
   have hq : gc (pvO l k) (l.getD k default).1 = decide ((l.getD k default).1 <= (l.getD ((k : Int) - 1).toNat default).2 + 1):=by
    obtain ⟨q,rfl⟩ : ∃ q,k = q + 1:=⟨k - 1,by omega⟩
    rw [show (((q + 1 : Nat) : Int) - 1).toNat = q by omega];rfl
   rw [hq] at hs
   repeat' first|((with_reducible first|apply XBr.tt|apply XBr.ff|refine XBr.y fun h=>?_|refine XBr.n fun h=>?_|refine XBr.dec (fun h=>?_) fun h=>?_|refine XInt.a ?_|apply Chk.go|apply ChkA.go|apply ChkF.go|apply ChkB.go|apply zq.mk) <;> conv=>whnf)|((first|refine XIx.a ?_|refine XIx.b ?_);conv=>whnf)|(with_reducible first|apply XBr.not|apply XAnd.mk|exact trivial)|(exact zg.mk rfl rfl)|(apply Walk.drawN (id:=6) za zd [] [] (hsU _) [_,_,_,_,_,_,_,_,_,_,_,_,_,_] (by kernel_rfl) rfl)|((refine zb.ret (ka _ _ _) ?_);conv=>whnf)|((with_reducible refine XBr.mk' (fun h=>?_) fun h=>?_) <;> conv=>whnf)|fail
   all_goals first
    | (refine XOut.int ?_;rw [hs,if_pos (by simp_all)];done)
    | (refine XOut.int ?_;rw [hs,if_neg (by simp_all),if_pos (by simp_all)];done)
    | (refine zl.go (k + 1) [.cells (sgA (l.getD k default)).cells] ⟨by omega,?_,hok (by simp_all)⟩ (by omega) rfl ⟨rfl,rfl,rfl,rfl,rfl,trivial⟩;rw [hs,if_neg (by simp_all),if_neg (by simp_all)];rfl)
 obtain rfl : k = l.length:=by omega
 rw [List.drop_length,spE] at hs
 repeat' ((with_reducible first|refine XBr.y fun h=>?_|refine XBr.n fun h=>?_|refine XBr.dec (fun h=>?_) fun h=>?_) <;> conv=>whnf)
 exact XOut.int hs.symm
theorem cnt1_c (s : Sn) (n : Int) : Comp Tryz.prog 266 [.int .i64 n,.pim (snC s)] (.bool (n == s.places)):=by
 refine Comp.body (T:=tab) (res:=[.tmp 3]) za [] Tryz.func266 rfl (by kernel_rfl) Tryz.ntmps266 rfl (by simp only [List.length_cons,List.length_nil];decide) (by simp only [lowL,AV.low,snCL];rfl) ?_;conv=>whnf
 skip
 all_goals (refine XOut.bool ?_;first | rfl|(simp_all;done))
theorem cnt2_c (s : Sn) (r : Rw) : Comp Tryz.prog 267 [rwA r,.pim [.fn 266 [.pim (snC s)]]] (.bool (decide ((r.2.length : Int) = s.places))):=by
 have e : ((ints r.2).length : Int) = r.2.length:=by rw [zK]
 refine Comp.body (T:=tab) (res:=[.tmp 3]) za [] Tryz.func267 rfl (by kernel_rfl) Tryz.ntmps267 rfl (by simp only [List.length_cons,List.length_nil];decide) (by simp only [lowL,AV.low,snCL,rwL];rfl) ?_;conv=>whnf
 repeat' ((refine zb.ret (cnt1_c s _) ?_);conv=>whnf)
 exact XOut.bool (by rw [e];rfl)
theorem cnt3_c (s : Sn) (t : Tru) : Comp Tryz.prog 269 [trA t,.pim [.fn 266 [.pim (snC s)]]] (.bool (decide ((t.2.length : Int) = s.places))):=by
 have e : ((t.2.map spsA).length : Int) = t.2.length:=by rw [List.length_map]
 refine Comp.body (T:=tab) (res:=[.tmp 3]) za [] Tryz.func269 rfl (by kernel_rfl) Tryz.ntmps269 rfl (by simp only [List.length_cons,List.length_nil];decide) (by simp only [lowL,AV.low,snCL,trL];rfl) ?_;conv=>whnf
 repeat' ((refine zb.ret (cnt1_c s _) ?_);conv=>whnf)
 exact XOut.bool (by rw [e];rfl)
structure SnB (s : Sn) : Prop where
 w : s.ways.length <= 1000
 k : s.looks.length <= 1000
 t : s.truths.length <= 1000
 kl : ∀ r ∈ s.looks,r.2.length <= 1000
 tl : ∀ t ∈ s.truths,t.2.length <= 1000
 sl : ∀ t ∈ s.truths,∀ r ∈ t.2,r.2.length <= 1000
theorem counted_c (s : Sn) (hb : SnB s) : Comp Tryz.prog 108 [snA s] (.bool (cntB s)):=by
 have b1:=hb.w;have b2:=hb.k;have b3:=hb.t
 have e1 : ((s.ways.map wyA).length : Int) = s.ways.length:=by rw [List.length_map]
 have e2 : ((s.looks.map rwA).length : Int) = s.looks.length:=by rw [List.length_map]
 have e3 : ((s.truths.map trA).length : Int) = s.truths.length:=by rw [List.length_map]
 have c1:=vR s.nk s.looks 267 [.pim [.fn 266 [.pim (snC s)]]] (fun r=>decide ((r.2.length : Int) = s.places)) (by simp only [lowL,AV.low,snCL];rfl) (by omega) fun r _=>cnt2_c s r
 have c2:=every_tr s.nt s.truths 269 [.pim [.fn 266 [.pim (snC s)]]] (fun t=>decide ((t.2.length : Int) = s.places)) (by simp only [lowL,AV.low,snCL];rfl) (by omega) fun t _=>cnt3_c s t
 have hcn : cntB s = (inZ s.places 1 5 && inZ s.truths.length 1 4 && decide ((s.ways.length : Int) <= 10) && decide ((s.looks.length : Int) = s.truths.length) && s.looks.all (fun l=>decide ((l.2.length : Int) = s.places)) && s.truths.all (fun t=>decide ((t.2.length : Int) = s.places))):=rfl
 generalize s.looks.all (fun l=>decide ((l.2.length : Int) = s.places)) = r1 at c1 hcn
 generalize s.truths.all (fun t=>decide ((t.2.length : Int) = s.places)) = r2 at c2 hcn
 rw [hcn]
 refine Comp.body (T:=tab) (res:=[.tmp 2]) za [] Tryz.func108 rfl (by kernel_rfl) Tryz.ntmps108 rfl (by simp only [List.length_cons,List.length_nil];decide) (by simp only [lowL,snL];rfl) ?_;conv=>whnf
 skip
 refine Walk.norm za [] [(1,_),(3,_)] ⟨rfl,rfl,trivial⟩ ?_
 conv=>whnf
 repeat' first|((with_reducible first|apply XBr.tt|apply XBr.ff|refine XBr.y fun h=>?_|refine XBr.n fun h=>?_|refine XBr.dec (fun h=>?_) fun h=>?_|refine XBr.y1 fun h=>?_|refine XBr.n1 fun h=>?_|refine XBr.beq (fun h=>?_) fun h=>?_) <;> conv=>whnf)|((first|refine zb.ret (ka _ _ _) ?_|(refine zb.lend c1 (.cons (.low (yP _)) (.cons (Froz.fn (.cons (Froz.ptr rfl (one1 rfl) (.cons (Froz.fn (.low (by simp only [lowL,AV.low,snCL];rfl))) .nil)) .nil)) .nil)) rfl ?_)|(refine zb.lend c2 (.cons (.low (yO _)) (.cons (Froz.fn (.cons (Froz.ptr rfl (one1 rfl) (.cons (Froz.fn (.low (by simp only [lowL,AV.low,snCL];rfl))) .nil)) .nil)) .nil)) rfl ?_));conv=>whnf)|((with_reducible refine XBr.mk' (fun h=>?_) fun h=>?_) <;> conv=>whnf)|fail
 all_goals (refine XOut.bool ?_;clear hcn c1 c2;simp only [List.length_map] at *;simp_all <;> omega)
theorem chk1_c (w : Wy) : Comp Tryz.prog 111 [wyA w] (.bool (inZ w.2.2 1 20)):=by
 refine Comp.body (T:=tab) (res:=[.tmp 2]) za [] Tryz.func111 rfl (by kernel_rfl) Tryz.ntmps111 rfl (by simp only [List.length_cons,List.length_nil];decide) (by rfl) ?_;conv=>whnf
 repeat' ((first|refine XArr.at _ (by omega) (by omega) rfl ?_|refine zb.ret (ka _ _ _) ?_);conv=>whnf)
 exact XOut.bool rfl
theorem chk21_c (n : Int) : Comp Tryz.prog 115 [.int .i64 n] (.bool (inZ n 0 3)):=by
 refine Comp.body (T:=tab) (res:=[.tmp 2]) za [] Tryz.func115 rfl (by kernel_rfl) Tryz.ntmps115 rfl (by simp only [List.length_cons,List.length_nil];decide) (by rfl) ?_;conv=>whnf
 repeat' ((refine zb.ret (ka _ _ _) ?_);conv=>whnf)
 exact XOut.bool rfl
theorem chk2_c (r : Rw) (h : r.2.length <= 100000) : Comp Tryz.prog 113 [rwA r] (.bool (r.2.all fun n=>inZ n 0 3)):=by
 have c:=zck r.1 r.2 115 [] (fun n=>inZ n 0 3) rfl h fun n _=>chk21_c n
 refine Comp.body (T:=tab) (res:=[.tmp 2]) za [] Tryz.func113 rfl (by kernel_rfl) Tryz.ntmps113 rfl (by simp only [List.length_cons,List.length_nil];decide) (by simp only [lowL,rwL];rfl) ?_;conv=>whnf
 repeat' ((refine zb.ret c ?_);conv=>whnf)
 exact XOut.bool rfl
theorem chk3_c (s : Sn) (w : Wy) (h1 : 1 <= s.places) (h2 : s.places <= 5) : Comp Tryz.prog 117 [wyA w,.pim (snC s)] (.bool (plB s w.1 && plB s w.2.1)):=by
 refine Comp.body (T:=tab) (res:=[.tmp 3]) za [] Tryz.func117 rfl (by kernel_rfl) Tryz.ntmps117 rfl (by simp only [List.length_cons,List.length_nil];decide) (by simp only [lowL,AV.low,snCL];rfl) ?_;conv=>whnf
 repeat' first|((first|(with_reducible first|apply XBr.tt|apply XBr.ff)|(first|(with_reducible apply XArr.pim0)|(with_reducible apply XArr.pim1)|refine zb.ret (vp s _ h1 h2) ?_));conv=>whnf)|((with_reducible refine XBr.mk' (fun h=>?_) fun h=>?_) <;> conv=>whnf)|fail
 all_goals (refine XOut.bool ?_;simp_all)
theorem chk4_c (x w : Wy) : Comp Tryz.prog 119 [wyA x,.pim [.int .i64 w.1,.int .i64 w.2.1,.int .i64 w.2.2]] (.bool (yh x w.1 w.2.1)):=by
 refine Comp.body (T:=tab) (res:=[.tmp 3]) za [] Tryz.func119 rfl (by kernel_rfl) Tryz.ntmps119 rfl (by simp only [List.length_cons,List.length_nil];decide) (by rfl) ?_;conv=>whnf
 refine Walk.norm za [] [(1,_),(2,_)] ⟨rfl,rfl,trivial⟩ ?_
 conv=>whnf
 repeat' first|((with_reducible first|apply XBr.tt|apply XBr.ff|refine XBr.y1 fun h=>?_|refine XBr.n1 fun h=>?_|refine XBr.beq (fun h=>?_) fun h=>?_) <;> conv=>whnf)|((first|(with_reducible apply XArr.pim0)|(with_reducible apply XArr.pim1));conv=>whnf)|fail
 all_goals (refine XOut.bool ?_;unfold yh;simp_all)
theorem snE_1 {s : Sn} (h : cntB s = false) : snE s = 2:=by unfold snE;rw [if_pos h]
theorem snE_2 {s : Sn} (h : cntB s = true) (h2 : inZ s.last 1 60 = false \/ s.ways.all (fun w=>inZ w.2.2 1 20) = false) : snE s = 3:=by unfold snE;rw [if_neg (by rw [h];simp),if_pos h2]
theorem snE_3 {s : Sn} (h : cntB s = true) (h2 : ¬ (inZ s.last 1 60 = false \/ s.ways.all (fun w=>inZ w.2.2 1 20) = false)) (h3 : s.looks.all (fun l=>l.2.all fun n=>inZ n 0 3) = false) : snE s = 3:=by unfold snE;rw [if_neg (by rw [h];simp),if_neg h2,if_pos h3]
theorem snE_4 {s : Sn} (h : cntB s = true) (h2 : ¬ (inZ s.last 1 60 = false \/ s.ways.all (fun w=>inZ w.2.2 1 20) = false)) (h3 : s.looks.all (fun l=>l.2.all fun n=>inZ n 0 3) = true) (h4 : plB s s.home = false \/ plB s s.bed = false \/ s.ways.all (fun w=>plB s w.1 && plB s w.2.1) = false) : snE s = 1:=by
 unfold snE;rw [if_neg (by rw [h];simp),if_neg h2,if_neg (by rw [h3];simp),if_pos h4]
theorem snE_5 {s : Sn} (h : cntB s = true) (h2 : ¬ (inZ s.last 1 60 = false \/ s.ways.all (fun w=>inZ w.2.2 1 20) = false)) (h3 : s.looks.all (fun l=>l.2.all fun n=>inZ n 0 3) = true) (h4 : ¬ (plB s s.home = false \/ plB s s.bed = false \/ s.ways.all (fun w=>plB s w.1 && plB s w.2.1) = false)) (h5 : s.home = s.bed) : snE s = 5:=by
 unfold snE;rw [if_neg (by rw [h];simp),if_neg h2,if_neg (by rw [h3];simp),if_neg h4,if_pos h5]
theorem snE_6 {s : Sn} (h : cntB s = true) (h2 : ¬ (inZ s.last 1 60 = false \/ s.ways.all (fun w=>inZ w.2.2 1 20) = false)) (h3 : s.looks.all (fun l=>l.2.all fun n=>inZ n 0 3) = true) (h4 : ¬ (plB s s.home = false \/ plB s s.bed = false \/ s.ways.all (fun w=>plB s w.1 && plB s w.2.1) = false)) (h5 : s.home ≠ s.bed) (h6 : agnB s = true) : snE s = 5:=by
 unfold snE;rw [if_neg (by rw [h];simp),if_neg h2,if_neg (by rw [h3];simp),if_neg h4,if_neg h5,if_pos h6]
theorem snE_7 {s : Sn} (h : cntB s = true) (h2 : ¬ (inZ s.last 1 60 = false \/ s.ways.all (fun w=>inZ w.2.2 1 20) = false)) (h3 : s.looks.all (fun l=>l.2.all fun n=>inZ n 0 3) = true) (h4 : ¬ (plB s s.home = false \/ plB s s.bed = false \/ s.ways.all (fun w=>plB s w.1 && plB s w.2.1) = false)) (h5 : s.home ≠ s.bed) (h6 : agnB s = false) : snE s = yW (s.truths.map (trE s)):=by
 unfold snE;rw [if_neg (by rw [h];simp),if_neg h2,if_neg (by rw [h3];simp),if_neg h4,if_neg h5,if_neg (by rw [h6];simp)]
theorem vt {α : Type} {f : α -> Int} {l : List α} {d : α} {k : Nat} (hk : k < l.length) (h0 : ∀ j,j < k -> f (l.getD j d) = 0) (h : f (l.getD k d) ≠ 0) : yW (l.map f) = f (l.getD k d):=by
 induction l generalizing k with
 | nil=>simp at hk
 | cons x l ih =>
   rw [List.map_cons,yW]
   cases k with
   | zero=>exact if_pos h
   | succ k =>
     have hx : f x = 0:=h0 0 (by omega)
     rw [if_neg (by rw [hx];simp)]
     exact ih (by simpa using hk) (fun j hj=>h0 (j + 1) (by omega)) h
theorem jO {α : Type} {f : α -> Int} {l : List α} {d : α} (h : ∀ j,j < l.length -> f (l.getD j d) = 0) : yW (l.map f) = 0:=by
 rw [kP]
 intro e he
 obtain ⟨x,hx,rfl⟩:=List.mem_map.1 he
 obtain ⟨j,hj,rfl⟩:=List.mem_iff_getElem.1 hx
 have:=h j hj
 rwa [List.getD_eq_getElem?_getD,List.getElem?_eq_getElem hj] at this
theorem wyOne (w : Wy) : ∀ x ∈ [AV.int .i64 w.1,.int .i64 w.2.1,.int .i64 w.2.2],x.one = true:=by simp [AV.one]
theorem jp (s : Sn) (hb : SnB s) : Comp Tryz.prog 16 [snA s] (.int .i64 (snE s)):=by
 have b1:=hb.w;have b2:=hb.k;have b3:=hb.t
 have e1 : ((s.ways.map wyA).length : Int) = s.ways.length:=by rw [List.length_map]
 have e3 : ((s.truths.map trA).length : Int) = s.truths.length:=by rw [List.length_map]
 have k1:=counted_c s hb
 have k2:=zc0 s.nw s.ways 111 [] (fun w=>inZ w.2.2 1 20) rfl (by omega) fun w _=>chk1_c w
 have k3:=vR s.nk s.looks 113 [] (fun l=>l.2.all fun n=>inZ n 0 3) rfl (by omega) fun r hr=>chk2_c r (by have:=hb.kl r hr;omega)
 cases q1 : cntB s
 ·rw [q1] at k1
  rw [snE_1 q1]
  refine Comp.body (T:=tab) (res:=[.tmp 2]) za [] Tryz.func16 rfl (by kernel_rfl) Tryz.ntmps16 rfl (by simp only [List.length_cons,List.length_nil];decide) (by simp only [lowL,snL];rfl) ?_;conv=>whnf
  repeat' first|((with_reducible apply XBr.ff);conv=>whnf) | with_reducible apply XBr.not|((refine zb.ret k1 ?_);conv=>whnf)|fail
  exact XOut.int rfl
 have p1 : 1 <= s.places /\ s.places <= 5:=by
  unfold cntB at q1
  simp only [Bool.and_eq_true,zr] at q1
  exact q1.1.1.1.1.1
 have k4:=zc0 s.nw s.ways 117 [.pim (snC s)] (fun w=>plB s w.1 && plB s w.2.1) (by simp only [lowL,AV.low,snCL];rfl) (by omega) fun w _=>chk3_c s w p1.1 p1.2
 have k5:=fun p=>vp s p p1.1 p1.2
 rw [q1] at k1
 cases q2 : inZ s.last 1 60
 ·rw [snE_2 q1 (.inl q2)]
  refine Comp.body (T:=tab) (res:=[.tmp 2]) za [] Tryz.func16 rfl (by kernel_rfl) Tryz.ntmps16 rfl (by simp only [List.length_cons,List.length_nil];decide) (by simp only [lowL,snL];rfl) ?_;conv=>whnf
  repeat' first|((with_reducible first|apply XBr.tt|apply XBr.ff);conv=>whnf) | with_reducible apply XBr.not|((first|(refine zb.ret k1 ?_)|((refine zb.ret (ka _ _ _) ?_);rw [q2]));conv=>whnf)|fail
  exact XOut.int rfl
 cases q3 : s.ways.all (fun w=>inZ w.2.2 1 20)
 ·rw [q3] at k2
  rw [snE_2 q1 (.inr q3)]
  refine Comp.body (T:=tab) (res:=[.tmp 2]) za [] Tryz.func16 rfl (by kernel_rfl) Tryz.ntmps16 rfl (by simp only [List.length_cons,List.length_nil];decide) (by simp only [lowL,snL];rfl) ?_;conv=>whnf
  repeat' first|((with_reducible first|apply XBr.tt|apply XBr.ff);conv=>whnf) | with_reducible apply XBr.not|((first|(refine zb.ret k1 ?_)|((refine zb.ret (ka _ _ _) ?_);rw [q2])|(refine zb.ret k2 ?_));conv=>whnf)|fail
  exact XOut.int rfl
 rw [q3] at k2
 have n2 : ¬ (inZ s.last 1 60 = false \/ s.ways.all (fun w=>inZ w.2.2 1 20) = false):=by rw [q2,q3];simp
 cases q4 : s.looks.all (fun l=>l.2.all fun n=>inZ n 0 3)
 ·rw [q4] at k3
  rw [snE_3 q1 n2 q4]
  refine Comp.body (T:=tab) (res:=[.tmp 2]) za [] Tryz.func16 rfl (by kernel_rfl) Tryz.ntmps16 rfl (by simp only [List.length_cons,List.length_nil];decide) (by simp only [lowL,snL];rfl) ?_;conv=>whnf
  repeat' first|((with_reducible first|apply XBr.tt|apply XBr.ff);conv=>whnf) | with_reducible apply XBr.not|((first|(refine zb.ret k1 ?_)|((refine zb.ret (ka _ _ _) ?_);rw [q2])|(first|refine zb.ret k2 ?_|refine zb.ret k3 ?_));conv=>whnf)|fail
  exact XOut.int rfl
 rw [q4] at k3
 by_cases q5 : plB s s.home = false \/ plB s s.bed = false \/ s.ways.all (fun w=>plB s w.1 && plB s w.2.1) = false
 ·rw [snE_4 q1 n2 q4 q5]
  generalize s.ways.all (fun w=>plB s w.1 && plB s w.2.1) = r5 at q5 k4
  refine Comp.body (T:=tab) (res:=[.tmp 2]) za [] Tryz.func16 rfl (by kernel_rfl) Tryz.ntmps16 rfl (by simp only [List.length_cons,List.length_nil];decide) (by simp only [lowL,snL];rfl) ?_;conv=>whnf
  repeat' first|((with_reducible first|apply XBr.tt|apply XBr.ff|refine XBr.y1 fun h=>?_|refine XBr.n1 fun h=>?_|refine XBr.beq (fun h=>?_) fun h=>?_) <;> conv=>whnf) | with_reducible apply XBr.not|((first|(refine zb.ret k1 ?_)|((refine zb.ret (ka _ _ _) ?_);rw [q2])|(first|refine zb.ret k2 ?_|refine zb.ret k3 ?_|refine zb.ret (k5 _) ?_|refine zb.ret k4 ?_));conv=>whnf)|((with_reducible refine XBr.mk' (fun h=>?_) fun h=>?_) <;> conv=>whnf)|fail
  all_goals first|exact XOut.int rfl|(exfalso;simp_all;done)
 have q51 : plB s s.home = true:=by cases h : plB s s.home with | true=>rfl | false=>exact absurd (.inl h) q5
 have q52 : plB s s.bed = true:=by cases h : plB s s.bed with | true=>rfl | false=>exact absurd (.inr (.inl h)) q5
 have q53 : s.ways.all (fun w=>plB s w.1 && plB s w.2.1) = true:=by cases h : s.ways.all (fun w=>plB s w.1 && plB s w.2.1) with | true=>rfl | false=>exact absurd (.inr (.inr h)) q5
 rw [q53] at k4
 have k51:=k5 s.home
 have k52:=k5 s.bed
 rw [q51] at k51
 rw [q52] at k52
 by_cases q6 : s.home = s.bed
 ·rw [snE_5 q1 n2 q4 q5 q6]
  refine Comp.body (T:=tab) (res:=[.tmp 2]) za [] Tryz.func16 rfl (by kernel_rfl) Tryz.ntmps16 rfl (by simp only [List.length_cons,List.length_nil];decide) (by simp only [lowL,snL];rfl) ?_;conv=>whnf
  repeat' first|((with_reducible first|apply XBr.tt|apply XBr.ff|refine XBr.y1 fun h=>?_|refine XBr.n1 fun h=>?_|refine XBr.beq (fun h=>?_) fun h=>?_) <;> conv=>whnf) | with_reducible apply XBr.not|((first|(refine zb.ret k1 ?_)|((refine zb.ret (ka _ _ _) ?_);rw [q2])|(first|refine zb.ret k2 ?_|refine zb.ret k3 ?_|(first|refine zb.ret k51 ?_|refine zb.ret k52 ?_)|refine zb.ret k4 ?_));conv=>whnf)|fail
  exact XOut.int rfl
 refine Comp.body (T:=tab) (res:=[.tmp 2]) za [] Tryz.func16 rfl (by kernel_rfl) Tryz.ntmps16 rfl (by simp only [List.length_cons,List.length_nil];decide) (by simp only [lowL,snL];rfl) ?_;conv=>whnf
 repeat' first|((with_reducible first|apply XBr.tt|apply XBr.ff|refine XBr.y1 fun h=>?_|refine XBr.n1 fun h=>?_|refine XBr.beq (fun h=>?_) fun h=>?_) <;> conv=>whnf) | with_reducible apply XBr.not|((first|(refine zb.ret k1 ?_)|((refine zb.ret (ka _ _ _) ?_);rw [q2])|(first|refine zb.ret k2 ?_|refine zb.ret k3 ?_|(first|refine zb.ret k51 ?_|refine zb.ret k52 ?_)|refine zb.ret k4 ?_));conv=>whnf)|fail
 refine Walk.loopGK za [] [(1,_),(57,_),(58,_)] ⟨rfl,rfl,rfl,trivial⟩ (fun k : Nat=>k <= s.ways.length /\ ∀ j,j < k -> agnI s j = false) (fun k=>[(59,natA k)]) (fun _=>[]) (fun k=>s.ways.length - k) 0 ⟨Nat.zero_le _,fun j hj=>by omega⟩ rfl ⟨rfl,trivial⟩ ?_ (fun _ _=>Nat.le_refl _) ?_
 ·intro k _
  refine ⟨by simp,fun z hz=>?_⟩
  simp only [List.cons_append,List.nil_append,List.mem_cons,List.not_mem_nil,or_false] at hz
  rcases hz with rfl | rfl | rfl | rfl <;> first | rfl|exact yB _|exact snCL s
 rintro k ⟨hk,hs⟩
 conv=>whnf
 by_cases hlt : k < s.ways.length
 ·have hag : agnI s k = ((s.ways.getD k default).1 == (s.ways.getD k default).2.1 ||(s.ways.take k).any fun x=>yh x (s.ways.getD k default).1 (s.ways.getD k default).2.1):=rfl
  have hE : agnI s k = true -> snE s = 5:=fun h=>snE_6 q1 n2 q4 q5 q6 (by unfold agnB;rw [List.any_eq_true];exact ⟨k,List.mem_range.2 hlt,h⟩)
  have hgo : agnI s k = false -> ∀ j,j < k + 1 -> agnI s j = false:=fun h j hj=>by
   by_cases e : j = k
   ·subst e;exact h
   ·exact hs j (by omega)
  have k6:=zcC s.nw (s.ways.take k) 119 [.pim [.int .i64 (s.ways.getD k default).1,.int .i64 (s.ways.getD k default).2.1,.int .i64 (s.ways.getD k default).2.2]] (fun x=>yh x (s.ways.getD k default).1 (s.ways.getD k default).2.1) rfl (by rw [List.length_take];omega) fun x _=>chk4_c x _
  generalize hany : (s.ways.take k).any (fun x=>yh x (s.ways.getD k default).1 (s.ways.getD k default).2.1) = r at k6 hag
  have hsl : List.take ((k : Int) - 0).toNat (List.drop (Int.toNat 0) (s.ways.map wyA)) = (s.ways.take k).map wyA:=by
   rw [show ((k : Int) - 0).toNat = k by omega,show Int.toNat 0 = 0 from rfl,List.drop_zero,List.map_take]
  repeat' first|((with_reducible first|apply XBr.tt|apply XBr.ff|refine XBr.y fun h=>?_|refine XBr.n fun h=>?_|refine XBr.dec (fun h=>?_) fun h=>?_|refine XBr.y1 fun h=>?_|refine XBr.n1 fun h=>?_|refine XBr.beq (fun h=>?_) fun h=>?_|refine XInt.a ?_) <;> conv=>whnf)|((first|(first|refine zh.a ?_|refine XIx.a ?_)|((with_reducible refine XArr.ptr ?_ ?_ ?_);omega;omega));conv=>whnf)|(rw [hsl];(refine zb.lend k6 (.cons (.low (yB _)) (.cons (Froz.fn (.cons (Froz.ptr rfl (wyOne _) (.low rfl)) .nil)) .nil)) rfl ?_);conv=>whnf)|((with_reducible refine XBr.mk' (fun h=>?_) fun h=>?_) <;> conv=>whnf)|fail
  all_goals first
   | (refine XOut.int (hE ?_).symm;rw [hag];simp_all;done)
   | exact zl.go (k + 1) [.cells (wyA (s.ways.getD k default)).cells] ⟨by omega,hgo (by rw [hag];simp_all)⟩ (by omega) rfl ⟨rfl,rfl,rfl,rfl,trivial⟩
 obtain rfl : k = s.ways.length:=by omega
 have q7 : agnB s = false:=by
  unfold agnB
  rw [List.any_eq_false]
  intro i hi
  rw [hs i (List.mem_range.1 hi)];simp
 rw [snE_7 q1 n2 q4 q5 q6 q7]
 clear hs
 repeat' ((with_reducible first|refine XBr.y fun h=>?_|refine XBr.n fun h=>?_|refine XBr.dec (fun h=>?_) fun h=>?_) <;> conv=>whnf)
 refine Walk.loopGK za [] [(1,_),(79,_),(80,_)] ⟨rfl,rfl,rfl,trivial⟩ (fun k : Nat=>k <= s.truths.length /\ ∀ j,j < k -> trE s (s.truths.getD j default) = 0) (fun k=>[(81,natA k)]) (fun _=>[]) (fun k=>s.truths.length - k) 0 ⟨Nat.zero_le _,fun j hj=>by omega⟩ rfl ⟨rfl,trivial⟩ ?_ (fun _ _=>Nat.le_refl _) ?_
 ·intro k _
  refine ⟨by simp,fun z hz=>?_⟩
  simp only [List.cons_append,List.nil_append,List.mem_cons,List.not_mem_nil,or_false] at hz
  rcases hz with rfl | rfl | rfl | rfl <;> first | rfl|exact yO _|exact snCL s
 rintro k ⟨hk,hs⟩
 conv=>whnf
 by_cases hlt : k < s.truths.length
 ·have hmem : s.truths.getD k default ∈ s.truths:=zk hlt
  have htl:=hb.tl _ hmem
  have hE : trE s (s.truths.getD k default) ≠ 0 -> yW (s.truths.map (trE s)) = trE s (s.truths.getD k default):=vt hlt hs
  have hgo : trE s (s.truths.getD k default) = 0 -> ∀ j,j < k + 1 -> trE s (s.truths.getD j default) = 0:=fun h j hj=>by
   by_cases e : j = k
   ·subst e;exact h
   ·exact hs j (by omega)
  have hsl:=hb.sl _ hmem
  have e4 : (((s.truths.getD k default).2.map spsA).length : Int) = (s.truths.getD k default).2.length:=by rw [List.length_map]
  repeat' first|((with_reducible first|refine XBr.y fun h=>?_|refine XBr.n fun h=>?_|refine XBr.dec (fun h=>?_) fun h=>?_) <;> conv=>whnf)|(refine XIx.a ?_;conv=>whnf)|fail
  refine Walk.loopK za [] [(1,_),(79,_),(80,_),(81,_),(86,_),(87,_)] ⟨rfl,rfl,rfl,rfl,rfl,rfl,trivial⟩ (fun j : Nat=>j <= (s.truths.getD k default).2.length /\ ∀ i,i < j -> spE s.last none ((s.truths.getD k default).2.getD i default).2 = 0) (fun j=>[(88,natA j)]) (fun _=>[.cells [.sl (s.truths.getD k default).1 ((s.truths.getD k default).2.map spsA)]]) (fun j=>(s.truths.getD k default).2.length - j) 0 ⟨Nat.zero_le _,fun j hj=>by omega⟩ rfl ⟨rfl,trivial⟩ ?_
  rintro j ⟨hj,hjs⟩
  conv=>whnf
  by_cases hlt2 : j < (s.truths.getD k default).2.length
  ·have hmem2 : (s.truths.getD k default).2.getD j default ∈ (s.truths.getD k default).2:=zk hlt2
   have hc:=spans_c s ((s.truths.getD k default).2.getD j default).1 ((s.truths.getD k default).2.getD j default).2 (by have:=hsl _ hmem2;omega) (by rw [zr] at q2;omega)
   have hE2 : spE s.last none ((s.truths.getD k default).2.getD j default).2 ≠ 0 -> trE s (s.truths.getD k default) = spE s.last none ((s.truths.getD k default).2.getD j default).2:=fun h=>vt (f:=fun r : Sps=>spE s.last none r.2) hlt2 hjs h
   have hgo2 : spE s.last none ((s.truths.getD k default).2.getD j default).2 = 0 -> ∀ i,i < j + 1 -> spE s.last none ((s.truths.getD k default).2.getD i default).2 = 0:=fun h i hi=>by
    by_cases e : i = j
    ·subst e;exact h
    ·exact hjs i (by omega)
   generalize spE s.last none ((s.truths.getD k default).2.getD j default).2 = v at hc hE2 hgo2
   repeat' first|((with_reducible first|refine XBr.y fun h=>?_|refine XBr.n fun h=>?_|refine XBr.dec (fun h=>?_) fun h=>?_|refine XBr.y2 fun h=>?_|refine XBr.n2 fun h=>?_|refine XBr.bne (fun h=>?_) fun h=>?_|refine XInt.a ?_) <;> conv=>whnf)|((first|refine XIx.a ?_|refine zb.ret hc ?_);conv=>whnf)|fail
   ·exact XOut.int (((hE (by rw [hE2 (by assumption)];assumption)).trans (hE2 (by assumption))).symm)
   ·exact zj.go (j + 1) ⟨by omega,hgo2 (by assumption)⟩ (by omega) rfl ⟨rfl,rfl,rfl,rfl,rfl,rfl,rfl,trivial⟩
  obtain rfl : j = (s.truths.getD k default).2.length:=by omega
  repeat' ((with_reducible first|refine XBr.y fun h=>?_|refine XBr.n fun h=>?_|refine XBr.dec (fun h=>?_) fun h=>?_|refine XInt.a ?_) <;> conv=>whnf)
  exact zl.go (k + 1) [.cells (trA (s.truths.getD k default)).cells] ⟨by omega,hgo (jO (f:=fun r : Sps=>spE s.last none r.2) hjs)⟩ (by omega) rfl ⟨rfl,rfl,rfl,rfl,trivial⟩
 obtain rfl : k = s.truths.length:=by omega
 repeat' ((with_reducible first|refine XBr.y fun h=>?_|refine XBr.n fun h=>?_|refine XBr.dec (fun h=>?_) fun h=>?_) <;> conv=>whnf)
 exact XOut.int (jO hs).symm
end GA
end
section
namespace GA
open Go Go.RowKit Go.Proofs
def sgs (l : List (Int × Int)) : List AV:=l.map sgA
theorem gI {n : Nat} (l : List (Int × Int)) : lowL n (sgs l) = true:=zN l
theorem qj (l : List (Int × Int)) : (sgs l).length = l.length:=List.length_map _
def esF (s : Sn) (p : Nat) : List (Int × AV):=(List.range p).map fun q : Nat=>((q : Int),AV.sl false (sgs (waysL s q)))
theorem zci (s : Sn) (p : Nat) : esF s (p + 1) = esF s p ++ [((p : Int),.sl false (sgs (waysL s p)))]:=by unfold esF;rw [List.range_succ,List.map_append];rfl
theorem esF_keys (s : Sn) (p : Nat) : ∀ x ∈ esF s p,∃ q : Nat,q < p /\ x.1 = q:=fun x hx=>by
 obtain ⟨q,hq,rfl⟩:=List.mem_map.1 hx
 exact ⟨q,List.mem_range.1 hq,rfl⟩
theorem fq {n : Int} {fs : List (Int × AV)} : ∀ {es : List (Int × AV)},(∀ x ∈ es,x.1 ≠ n) -> mget n (es ++ fs) = mget n fs
 | [],_=>rfl
 | (m,v) :: l,h=>by
   show (if m = n then some v else mget n (l ++ fs)) = _
   rw [if_neg (h _ List.mem_cons_self)]
   exact fq fun x hx=>h x (List.mem_cons_of_mem _ hx)
theorem zcR {n : Int} {v : AV} {fs : List (Int × AV)} : ∀ {es : List (Int × AV)},(∀ x ∈ es,x.1 ≠ n) -> mput n v (es ++ fs) = es ++ mput n v fs
 | [],_=>rfl
 | (m,u) :: l,h=>by
   show (if m = n then (m,v) :: (l ++ fs) else (m,u) :: mput n v (l ++ fs)) = _
   rw [if_neg (h _ List.mem_cons_self),zcR fun x hx=>h x (List.mem_cons_of_mem _ hx)];rfl
theorem esF_ne (s : Sn) (p : Nat) : ∀ x ∈ esF s p,x.1 ≠ (p : Int):=fun x hx=>by obtain ⟨q,h1,h2⟩:=esF_keys s p x hx;omega
def esW (s : Sn) (p : Nat) (R : List (Int × Int)) : List (Int × AV):=esF s p ++ if R.isEmpty = true then [] else [((p : Int),.gr 2 R.length)]
theorem zbt (s : Sn) (p : Nat) (R : List (Int × Int)) : mget (p : Int) (esW s p R) = if (sgs R).isEmpty = true then none else some (.gr 2 (sgs R).length):=by
 unfold esW
 rw [fq (esF_ne s p),qj,show (sgs R).isEmpty = R.isEmpty by cases R <;> rfl]
 by_cases h : R.isEmpty = true
 ·rw [if_pos h,if_pos h];rfl
 ·rw [if_neg h,if_neg h]
  show (if (p : Int) = p then _ else _) = _
  rw [if_pos rfl]
theorem zbs (s : Sn) (p : Nat) (R : List (Int × Int)) (x : Int × Int) : mput (p : Int) (.gr 2 (R.length + 1)) (esW s p R) = esW s p (R ++ [x]):=by
 unfold esW
 rw [zcR (esF_ne s p),if_neg (show ¬ (R ++ [x]).isEmpty = true by simp),List.length_append]
 by_cases h : R.isEmpty = true
 ·rw [if_pos h];rfl
 ·rw [if_neg h]
  show _ ++ (if (p : Int) = p then _ else _) = _
  rw [if_pos rfl];rfl
theorem esW_nil (s : Sn) (p : Nat) : esW s p [] = esF s p:=by unfold esW;rw [if_pos (show ([] : List (Int × Int)).isEmpty = true from rfl),List.append_nil]
theorem gE {n : Nat} (s : Sn) (p : Nat) : lowL n ((esF s p).map (·.2)) = true:=by
 unfold esF
 rw [List.map_map]
 exact yr (f:=fun q : Nat=>AV.sl false (sgs (waysL s q))) (fun _=>gI _) _
theorem jC {n : Nat} : ∀ {a b : List AV},lowL n a = true -> lowL n b = true -> lowL n (a ++ b) = true
 | [],_,_,h=>h
 | x :: l,b,h1,h2=>by
   have h1' : (x.low n && lowL n l) = true:=h1
   rw [Bool.and_eq_true] at h1'
   show (x.low n && lowL n (l ++ b)) = true
   rw [h1'.1,jC h1'.2 h2];rfl
theorem zbd (s : Sn) (p : Nat) (R : List (Int × Int)) : lowL 3 ((esW s p R).map (·.2)) = true:=by
 unfold esW
 rw [List.map_append]
 refine jC (gE s p) ?_
 split <;> rfl
theorem wI (s : Sn) : ∀ (n p : Nat),p < n -> mget (p : Int) (esF s n) = some (.sl false (sgs (waysL s p)))
 | 0,p,h=>by omega
 | n + 1,p,h=>by
   rw [zci]
   by_cases e : p < n
   ·have ih:=wI s n p e
    clear h
    generalize esF s n = es at ih
    induction es with
    | nil=>cases ih
    | cons x l ihl =>
      obtain ⟨m,v⟩:=x
      have ih' : (if m = (p : Int) then some v else mget p l) = _:=ih
      show (if m = (p : Int) then some v else mget p (l ++ _)) = _
      by_cases hm : m = (p : Int)
      ·rw [if_pos hm] at ih' ⊢;exact ih'
      ·rw [if_neg hm] at ih' ⊢;exact ihl ih'
   ·have e : p = n:=by omega
    subst e
    rw [fq (esF_ne s p)]
    show (if (p : Int) = p then _ else _) = _
    rw [if_pos rfl]
theorem gR {s : Sn} {p : Nat} : ((p : Int),(1 : Int)) ∈ jf s p p:=by unfold jf;rw [if_pos rfl];simp
theorem wj {s : Sn} {p : Nat} {t : Int × Int} : ∀ {k : Nat},t ∈ yc s p k ↔ ∃ q,q < k /\ t ∈ jf s p q
 | 0=>by simp [yc]
 | k + 1=>by
   rw [yc,List.mem_append,wj]
   constructor
   ·rintro (⟨q,h1,h2⟩ | h)
    ·exact ⟨q,by omega,h2⟩
    ·exact ⟨k,by omega,h⟩
   ·rintro ⟨q,h1,h2⟩
    by_cases e : q = k
    ·subst e;exact .inr h2
    ·exact .inl ⟨q,by omega,h2⟩
theorem waysL_ne {s : Sn} {p : Nat} (h : (p : Int) < s.places) : waysL s p ≠ []:=fun e=>by
 have : ((p : Int),(1 : Int)) ∈ waysL s p:=wj.2 ⟨p,by omega,gR⟩
 rw [e] at this;cases this
def dryC (s : Sn) : List AV:=nvs 305 (dryG s.truths.length (dryV s s.truths.length 0 0))
def keyF (s : Sn) : List Int:=(esF s s.places.toNat).map (·.1)
def zau (s : Sn) : List AV:=snC s ++ (dryC s ++ [.im (keyF s) ((esF s s.places.toNat).map (·.2))])
def zF (s : Sn) : AV:=.pim (zau s)
theorem zG {n : Nat} (s : Sn) : (zF s).low n = true:=jC (snCL s) (jC (zbA _ _) (by
 show (lowL n ((esF s s.places.toNat).map (·.2)) && true) = true
 rw [gE];rfl))
end GA
end
section
namespace GA
open Go Go.RowKit Go.Proofs
theorem wy {α β : Type} {f g : β -> α -> β} : ∀ {l : List α} {b : β},(∀ b,∀ x ∈ l,f b x = g b x) -> l.foldl f b = l.foldl g b
 | [],_,_=>rfl
 | x :: l,b,h=>by rw [List.foldl_cons,List.foldl_cons,h b x List.mem_cons_self];exact wy fun b y hy=>h b y (List.mem_cons_of_mem _ hy)
theorem fT {f g : Sta -> Int} {l : List Sta} (h : ∀ x ∈ l,f x = g x) : minL f l = minL g l:=by
 cases l with
 | nil=>rfl
 | cons x l =>
   show l.foldl (fun n y=>min n (f y)) (f x) = l.foldl (fun n y=>min n (g y)) (g x)
   rw [h x List.mem_cons_self]
   exact wy fun b y hy=>by rw [h y (List.mem_cons_of_mem _ hy)]
theorem wS {s : Sn} {f g : Sta -> Int} {x : Sta} (h : ∀ t ∈ zT s x,∀ y ∈ zm s x t,f y = g y) : zM s f x = zM s g x:=by
 unfold zM
 split
 ·refine wy fun b t ht=>?_
  unfold zP
  rw [fT (h t ht)]
 ·rfl
theorem jH {s : Sn} {x y : Sta} {t : Int × Int} (h : y ∈ zm s x t) : y.p = t.1.toNat /\ (y.m : Int) = x.m + t.2 /\ (y.m : Int) <= s.last /\ t ∈ waysL s x.p /\ y.l ∈ zC s t.1.toNat x.l /\ zW s y = true /\ zW s x = true:=by
 unfold zm at h
 split at h
 ·rename_i hc
  obtain ⟨h1,h2,h3,h4⟩:=hc
  have hy:=List.all_eq_true.1 h4 y h
  unfold outS at h
  obtain ⟨l,hl,rfl⟩:=List.mem_map.1 h
  rw [zr] at h2
  exact ⟨rfl,by show (((x.m + t.2).toNat : Nat) : Int) = _;omega,by show (((x.m + t.2).toNat : Nat) : Int) <= _;omega,List.contains_iff_mem.1 h3,hl,hy,h1⟩
 ·cases h
theorem yn {s : Sn} (ok : SnOk s) {p : Nat} {t : Int × Int} (h : t ∈ waysL s p) : 1 <= t.2 /\ t.2 <= 20 /\ 0 <= t.1 /\ t.1 < s.places:=by
 obtain ⟨q,hq,hm⟩:=wj.1 h
 have p1:=ok.p1
 unfold jf at hm
 rcases List.mem_append.1 hm with h1 | h1
 ·split at h1
  ·rename_i e
   rw [List.mem_singleton] at h1
   subst h1
   dsimp only
   omega
  ·cases h1
 ·obtain ⟨w,hw,rfl⟩:=List.mem_map.1 h1
  have:=ok.wm w (List.mem_filter.1 hw).1
  dsimp only
  omega
theorem jj {s : Sn} (ok : SnOk s) {x y : Sta} {t : Int × Int} (h : y ∈ zm s x t) : x.m < y.m /\ (y.m : Int) <= s.last:=by
 obtain ⟨-,h2,h3,h4,-⟩:=jH h
 have:=yn ok h4
 omega
theorem zaV {s : Sn} (ok : SnOk s) : ∀ (d k k' : Nat) (x : Sta),(s.last + 1 - x.m).toNat <= d -> (s.last + 1 - x.m).toNat <= k -> (s.last + 1 - x.m).toNat <= k' -> (x.m : Int) <= s.last -> yD s k x = yD s k' x
 | 0,k,k',x,h,_,_,hx=>by omega
 | d + 1,k,k',x,h,h1,h2,hx=>by
   obtain ⟨k,rfl⟩ : ∃ j,k = j + 1:=⟨k - 1,by omega⟩
   obtain ⟨k',rfl⟩ : ∃ j,k' = j + 1:=⟨k' - 1,by omega⟩
   rw [yD,yD]
   refine wS fun t _ y hy=>?_
   obtain ⟨h3,h4⟩:=jj ok hy
   exact zaV ok d k k' y (by omega) (by omega) (by omega) h4
theorem zaF {s : Sn} (ok : SnOk s) {x : Sta} (hx : (x.m : Int) <= s.last) : zi s x = zM s (zi s) x:=by
 obtain ⟨k,hk⟩ : ∃ k,(s.last + 1 - x.m).toNat = k + 1:=⟨(s.last - x.m).toNat,by omega⟩
 unfold zi
 rw [hk,yD]
 refine wS fun t _ y hy=>?_
 obtain ⟨h3,h4⟩:=jj ok hy
 exact zaV ok _ _ _ y (Nat.le_refl _) (by omega) (by omega) h4
theorem jt {α : Type} {f : α -> Int} : ∀ {l : List α} {b : Int},(l.foldl (fun n t=>min n (f t)) b = b \/ ∃ t ∈ l,l.foldl (fun n t=>min n (f t)) b = f t) /\ l.foldl (fun n t=>min n (f t)) b <= b /\ ∀ t ∈ l,l.foldl (fun n t=>min n (f t)) b <= f t
 | [],b=>⟨.inl rfl,Int.le_refl _,fun t ht=>by cases ht⟩
 | x :: l,b=>by
   obtain ⟨h1,h2,h3⟩:=jt (f:=f) (l:=l) (b:=min b (f x))
   rw [List.foldl_cons]
   refine ⟨?_,by omega,fun t ht=>?_⟩
   ·rcases h1 with h1 | ⟨t,ht,h1⟩
    ·by_cases h : b <= f x
     ·left;rw [h1];omega
     ·right;exact ⟨x,List.mem_cons_self,by rw [h1];omega⟩
    ·right;exact ⟨t,List.mem_cons_of_mem _ ht,h1⟩
   ·rcases List.mem_cons.1 ht with rfl | ht
    ·omega
    ·exact h3 t ht
theorem jZ {f : Sta -> Int} {l : List Sta} (h : l ≠ []) : (∃ y ∈ l,minL f l = f y) /\ ∀ y ∈ l,minL f l <= f y:=by
 cases l with
 | nil=>exact absurd rfl h
 | cons x l =>
   obtain ⟨h1,h2,h3⟩:=jt (f:=f) (l:=l) (b:=f x)
   refine ⟨?_,fun y hy=>?_⟩
   ·rcases h1 with h1 | ⟨t,ht,h1⟩
    ·exact ⟨x,List.mem_cons_self,h1⟩
    ·exact ⟨t,List.mem_cons_of_mem _ ht,h1⟩
   ·rcases List.mem_cons.1 hy with rfl | hy
    ·exact h2
    ·exact h3 y hy
theorem jv {α : Type} {f : α -> Int} : ∀ {l : List α} {b : Int},(l.foldl (fun n t=>max n (f t)) b = b \/ ∃ t ∈ l,l.foldl (fun n t=>max n (f t)) b = f t) /\ b <= l.foldl (fun n t=>max n (f t)) b /\ ∀ t ∈ l,f t <= l.foldl (fun n t=>max n (f t)) b
 | [],b=>⟨.inl rfl,Int.le_refl _,fun t ht=>by cases ht⟩
 | x :: l,b=>by
   obtain ⟨h1,h2,h3⟩:=jv (f:=f) (l:=l) (b:=max b (f x))
   rw [List.foldl_cons]
   refine ⟨?_,by omega,fun t ht=>?_⟩
   ·rcases h1 with h1 | ⟨t,ht,h1⟩
    ·by_cases h : f x <= b
     ·left;rw [h1];omega
     ·right;exact ⟨x,List.mem_cons_self,by rw [h1];omega⟩
    ·right;exact ⟨t,List.mem_cons_of_mem _ ht,h1⟩
   ·rcases List.mem_cons.1 ht with rfl | ht
    ·omega
    ·exact h3 t ht
theorem zdf {s : Sn} {x : Sta} {t : Int × Int} : t ∈ zT s x ↔ zm s x t ≠ []:=by
 unfold zT
 rw [List.mem_filter]
 constructor
 ·rintro ⟨-,h⟩ e
  rw [e] at h;cases h
 ·intro h
  refine ⟨?_,by cases e : zm s x t with | nil=>exact absurd e h | cons _ _=>rfl⟩
  obtain ⟨y,hy⟩:=List.exists_mem_of_ne_nil _ h
  exact (jH hy).2.2.2.1
end GA
end
section
namespace GA
open Go Go.RowKit Go.Proofs
theorem gV {ρ : Nat -> Nat} {n : Nat} (h : ∀ i,i < n -> ρ i = i) : ∀ {l : List AV},lowL n l = true -> l.map (AV.ren ρ) = l
 | [],_=>rfl
 | a :: l,hl=>by
   have hl' : (a.low n && lowL n l) = true:=hl
   rw [Bool.and_eq_true] at hl'
   rw [List.map_cons,AV.ren_low h hl'.1,gV h hl'.2]
theorem z7.pre {P : Program} {f : FuncId} {rs : List AV} {H1 X : List Blk} {k1 K : AV -> List Blk -> Prop} (x : z7 P f rs H1 k1) (lo : ∀ x ∈ H1,x.low H1.length = true) (lor : lowL H1.length rs = true)
  (hk : ∀ r H1',k1 r H1' -> H1'.length = H1.length /\ (∀ x ∈ H1',x.low H1.length = true) /\ r.low H1.length = true /\ K r (H1' ++ X)) : z7 P f rs (H1 ++ X) K:=by
 have hid : ∀ i,i < H1.length -> (fun i : Nat=>i) i = i:=fun _ _=>rfl
 have e:=z7.frame (ρ:=fun i=>i) (H:=H1 ++ X) (k:=K) x (fun i j _ _ h=>h) ?_ lo lor ?_
 ·rwa [gV hid lor] at e
 ·intro i x1 hi
  have hl:=(List.getElem?_eq_some_iff.1 hi).1
  rw [Blk.ren_low hid (lo x1 (List.mem_of_getElem? hi)),List.getElem?_append_left hl];exact hi
 ·intro r1 H1' h1
  obtain ⟨h2,h3,h4,h5⟩:=hk r1 H1' h1
  refine ⟨h2,H1' ++ X,by rw [List.length_append,List.length_append,h2],fun i x1 hi=>?_,fun j hj=>?_,?_⟩
  ·have hl:=(List.getElem?_eq_some_iff.1 hi).1
   rw [Blk.ren_low hid (h3 x1 (List.mem_of_getElem? hi)),List.getElem?_append_left hl];exact hi
  ·have : H1.length <= j:=by
    refine Classical.byContradiction fun h=>?_
    exact hj j (by omega) rfl
   rw [List.getElem?_append_right (by omega),List.getElem?_append_right this,h2]
  ·rw [AV.ren_low hid h4];exact h5
theorem zb.pre {P : Program} {f : FuncId} {rs : List AV} {H1 : List Blk} {k1 K : AV -> List Blk -> Prop} (X : List Blk) (x : z7 P f rs H1 k1) {H : List Blk} (hH : H = H1 ++ X) (lo : ∀ x ∈ H1,x.low H1.length = true) (lor : lowL H1.length rs = true)
  (hk : ∀ r H1',k1 r H1' -> H1'.length = H1.length /\ (∀ x ∈ H1',x.low H1.length = true) /\ r.low H1.length = true /\ K r (H1' ++ X)) : zb P f rs H K:=by
 subst hH
 exact ⟨.pre x lo lor hk⟩
def zvs (W : Nat) (F : Nat -> Int) : List AV:=(vecF W F).map (AV.int .i64)
def tvs (W : Nat) (F : Nat -> Bool) : List AV:=(vecF W F).map AV.bool
theorem y7 (W : Nat) (F : Nat -> Int) : (zvs W F).length = W:=by unfold zvs;rw [List.length_map,zx]
theorem zE (W : Nat) (F : Nat -> Bool) : (tvs W F).length = W:=by unfold tvs;rw [List.length_map,zx]
theorem jP {n : Nat} (W : Nat) (F : Nat -> Int) : lowL n (zvs W F) = true:=zbM fun _=>rfl
theorem tvs_low {n : Nat} (W : Nat) (F : Nat -> Bool) : lowL n (tvs W F) = true:=zbM fun _=>rfl
theorem zvs0 (W : Nat) : List.replicate W (AV.int .i64 0) = zvs W fun _=>0:=by unfold zvs;rw [yz,List.map_replicate]
theorem tvs0 (W : Nat) : List.replicate W (AV.bool false) = tvs W fun _=>false:=by unfold tvs;rw [yz,List.map_replicate]
theorem zvs_one (W : Nat) (F : Nat -> Int) : ∀ x ∈ zvs W F,x.one = true:=fun x hx=>by obtain ⟨y,-,rfl⟩:=List.mem_map.1 hx;rfl
abbrev T3 (α : Type):=Nat -> Nat -> Nat -> α
def G3 {α : Type} (W : T3 α) (j : Nat) : α:=W (j / 976) (j / 16 % 61) (j % 16)
def upd3 {α : Type} (W : T3 α) (p m l : Nat) (v : α) : T3 α:=fun p' m' l'=>if p' = p /\ m' = m /\ l' = l then v else W p' m' l'
theorem G3_at {α : Type} (W : T3 α) {p m l : Nat} (hm : m < 61) (hl : l < 16) : G3 W (976 * p + 16 * m + l) = W p m l:=by
 unfold G3
 rw [show (976 * p + 16 * m + l) / 976 = p by omega,show (976 * p + 16 * m + l) / 16 % 61 = m by omega,show (976 * p + 16 * m + l) % 16 = l by omega]
theorem G3_set {α : Type} (W : T3 α) {p m l : Nat} (v : α) (hm : m < 61) (hl : l < 16) : updV (G3 W) (976 * p + 16 * m + l) v = G3 (upd3 W p m l v):=by
 funext j
 unfold updV G3 upd3
 by_cases h : j = 976 * p + 16 * m + l
 ·rw [if_pos h,if_pos ⟨by omega,by omega,by omega⟩]
 ·rw [if_neg h,if_neg (fun e=>h (by omega))]
theorem jk {α : Type} (W : T3 α) (p m l : Nat) (v : α) : upd3 W p m l v p m l = v:=if_pos ⟨rfl,rfl,rfl⟩
theorem yS {α : Type} (W : T3 α) {p m l p' m' l' : Nat} (v : α) (h : ¬ (p' = p /\ m' = m /\ l' = l)) : upd3 W p m l v p' m' l' = W p' m' l':=if_neg h
structure WSt where
 K : T3 Bool
 D : T3 Bool
def vld (s : Sn) (x : Sta) : Prop:=(x.p : Int) < s.places /\ (x.m : Int) <= s.last /\ x.l <= allN s
def wNum (s : Sn) (D : T3 Bool) : T3 Int:=fun p m l=>if D p m l = true then zi s ⟨p,m,l⟩ else 0
structure WInv (s : Sn) (c : Nat) (g : WSt) : Prop where
 v : ∀ p m l,g.K p m l = true -> vld s ⟨p,m,l⟩
 k : ∀ p m l,g.D p m l = true -> g.K p m l = true
 d : ∀ p m l,c <= m -> g.D p m l = g.K p m l
structure WRel (c : Nat) (g g' : WSt) : Prop where
 s : ∀ p m l,m < c -> g'.K p m l = g.K p m l /\ g'.D p m l = g.D p m l
 k : ∀ p m l,g.K p m l = true -> g'.K p m l = true
theorem WInv.up {s : Sn} {c c' : Nat} {g : WSt} (h : WInv s c g) (hc : c <= c') : WInv s c' g:=⟨h.v,h.k,fun p m l hm=>h.d p m l (by omega)⟩
theorem WRel.rfl' {c : Nat} {g : WSt} : WRel c g g:=⟨fun _ _ _ _=>⟨rfl,rfl⟩,fun _ _ _ h=>h⟩
theorem WRel.trans {c : Nat} {g g' g'' : WSt} (h : WRel c g g') (h' : WRel c g' g'') : WRel c g g'':=
 ⟨fun p m l hm=>⟨((h'.s p m l hm).1).trans (h.s p m l hm).1,((h'.s p m l hm).2).trans (h.s p m l hm).2⟩,fun p m l e=>h'.k p m l (h.k p m l e)⟩
theorem WRel.down {c c' : Nat} {g g' : WSt} (h : WRel c g g') (hc : c' <= c) : WRel c' g g':=⟨fun p m l hm=>h.s p m l (by omega),h.k⟩
theorem WInv.back {s : Sn} {c c' : Nat} {g g' : WSt} (h : WInv s c g) (h' : WInv s c' g') (r : WRel c' g g') : WInv s c g':=
 ⟨h'.v,h'.k,fun p m l hm=>by
  by_cases e : c' <= m
  ·exact h'.d p m l e
  ·have:=r.s p m l (by omega)
   rw [this.1,this.2,h.d p m l hm]⟩
def setK (g : WSt) (x : Sta) : WSt:=⟨upd3 g.K x.p x.m x.l true,g.D⟩
def setD (g : WSt) (x : Sta) : WSt:=⟨g.K,upd3 g.D x.p x.m x.l true⟩
theorem WInv.setK {s : Sn} {g : WSt} {x : Sta} (h : WInv s x.m g) (hv : vld s x) : WInv s (x.m + 1) (GA.setK g x):=
 ⟨fun p m l e=>by
  by_cases h1 : p = x.p /\ m = x.m /\ l = x.l
  ·obtain ⟨rfl,rfl,rfl⟩:=h1;exact hv
  ·exact h.v p m l (by rw [<- e];exact (yS g.K true h1).symm),
  fun p m l e=>by
   by_cases h1 : p = x.p /\ m = x.m /\ l = x.l
   ·obtain ⟨rfl,rfl,rfl⟩:=h1;exact jk _ _ _ _ _
   ·exact (yS g.K true h1).trans (h.k p m l e),
  fun p m l hm=>by
   have h1 : ¬ (p = x.p /\ m = x.m /\ l = x.l):=fun e=>by omega
   exact (h.d p m l (by omega)).trans (yS g.K true h1).symm⟩
theorem WInv.setD {s : Sn} {g g1 : WSt} {x : Sta} (h : WInv s x.m g) (h1 : WInv s (x.m + 1) g1) (r : WRel (x.m + 1) (GA.setK g x) g1) : WInv s x.m (GA.setD g1 x) /\ WRel x.m g (GA.setD g1 x) /\ (GA.setD g1 x).K x.p x.m x.l = true:=by
 have hx : g1.K x.p x.m x.l = true:=r.k _ _ _ (jk _ _ _ _ _)
 refine ⟨⟨h1.v,fun p m l e=>?_,fun p m l hm=>?_⟩,⟨fun p m l hm=>?_,fun p m l e=>?_⟩,hx⟩
 ·by_cases h2 : p = x.p /\ m = x.m /\ l = x.l
  ·obtain ⟨rfl,rfl,rfl⟩:=h2;exact hx
  ·exact h1.k p m l (by rw [<- e];exact (yS g1.D true h2).symm)
 ·by_cases h2 : p = x.p /\ m = x.m /\ l = x.l
  ·obtain ⟨rfl,rfl,rfl⟩:=h2;exact (jk _ _ _ _ _).trans hx.symm
  ·refine (yS g1.D true h2).trans ?_
   by_cases e : x.m + 1 <= m
   ·exact h1.d p m l e
   ·have hs:=r.s p m l (by omega)
    exact hs.2.trans ((h.d p m l hm).trans (hs.1.trans (yS g.K true h2)).symm)
 ·have h2 : ¬ (p = x.p /\ m = x.m /\ l = x.l):=fun e=>by omega
  have hs:=r.s p m l (by omega)
  exact ⟨hs.1.trans (yS g.K true h2),(yS g1.D true h2).trans hs.2⟩
 ·refine r.k p m l ?_
  by_cases h2 : p = x.p /\ m = x.m /\ l = x.l
  ·obtain ⟨rfl,rfl,rfl⟩:=h2;exact jk _ _ _ _ _
  ·exact (yS g.K true h2).trans e
theorem gC {s : Sn} {D : T3 Bool} {p m l : Nat} (h : D p m l = true) : wNum s D p m l = zi s ⟨p,m,l⟩:=if_pos h
theorem wNum_set (s : Sn) (g : WSt) (x : Sta) : upd3 (wNum s g.D) x.p x.m x.l (zi s x) = wNum s (GA.setD g x).D:=by
 funext p m l
 by_cases h : p = x.p /\ m = x.m /\ l = x.l
 ·obtain ⟨rfl,rfl,rfl⟩:=h
  rw [jk];exact (gC (D:=(GA.setD g x).D) (jk _ _ _ _ _)).symm
 ·rw [yS _ _ h]
  unfold wNum
  rw [show (GA.setD g x).D p m l = g.D p m l from yS _ _ h]
theorem zaB (s : Sn) : ∀ (k : Nat) (x : Sta),yD s k x <= k
 | 0,x=>by show (-1 : Int) <= (0 : Nat);omega
 | k + 1,x=>by
   rw [yD]
   unfold zM
   split
   ·rcases (jv (f:=fun t=>zP s (yD s k) x t) (l:=zT s x) (b:=ye s x)).1 with h | ⟨t,ht,h⟩
    ·rw [h];unfold ye;split <;> omega
    ·rw [h]
     obtain ⟨⟨y,hy,e⟩,-⟩:=jZ (f:=yD s k) (zdf.1 ht)
     have:=zaB s k y
     unfold zP
     dsimp only
     rw [e]
     split <;> omega
   ·omega
theorem vv (s : Sn) (x : Sta) (hx : (x.m : Int) <= s.last) : zi s x <= s.last + 1 - x.m:=by
 have:=zaB s (s.last + 1 - x.m).toNat x
 unfold zi
 omega
end GA
end
section
namespace GA
open Go Go.RowKit Go.Proofs
theorem zav (s : Sn) (p left n i : Nat) : (partN s p left n).testBit i = (decide (i < s.looks.length) && (ko s i p == n && left.testBit i)):=y5 _ _ _
theorem zag {s : Sn} {p left l : Nat} : ∀ {k : Nat},l ∈ zJ s p left k ↔ ∃ n,n < k /\ l = partN s p left n /\ l ≠ 0
 | 0=>by simp [zJ]
 | k + 1=>by
   rw [zJ,List.mem_append,zag]
   constructor
   ·rintro (⟨n,h1,h2⟩ | h)
    ·exact ⟨n,by omega,h2⟩
    ·split at h
     ·cases h
     ·rename_i hne
      rw [List.mem_singleton] at h
      exact ⟨k,by omega,h,by rw [h];exact hne⟩
   ·rintro ⟨n,h1,h2,h3⟩
    by_cases e : n = k
    ·subst e
     right
     rw [if_neg (by rw [<- h2];exact h3),List.mem_singleton];exact h2
    ·left;exact ⟨n,by omega,h2,h3⟩
theorem wB {s : Sn} {p left l : Nat} : l ∈ zC s p left ↔ ∃ n,n < 4 /\ l = partN s p left n /\ l ≠ 0:=zag
theorem lookZ_b {s : Sn} (ok : SnOk s) {t p : Nat} (ht : t < s.looks.length) (hp : (p : Int) < s.places) : 0 <= ko s t p /\ ko s t p <= 3:=by
 have hm : s.looks.getD t default ∈ s.looks:=zk ht
 have hl:=ok.kl _ hm
 exact ok.kn _ hm _ (zk (by omega))
theorem parts_has {s : Sn} (ok : SnOk s) {p left i : Nat} (hp : (p : Int) < s.places) (hi : i < s.looks.length) (hl : left.testBit i = true) : ∃ n : Nat,n < 4 /\ ko s i p = n /\ partN s p left n ∈ zC s p left /\ (partN s p left n).testBit i = true:=by
 have hb:=lookZ_b ok hi hp
 obtain ⟨n,hn⟩ : ∃ n : Nat,ko s i p = n:=⟨(ko s i p).toNat,by omega⟩
 have hbit : (partN s p left n).testBit i = true:=by rw [zav,hn,hl,decide_eq_true hi];simp
 refine ⟨n,by omega,hn,wB.2 ⟨n,by omega,rfl,zcx hbit⟩,hbit⟩
theorem drN_bit (s : Sn) (p m i : Nat) : (drN s p m).testBit i = (decide (i < s.truths.length) && dryT s i p m):=y5 _ _ _
theorem safeB_iff {s : Sn} {x : Sta} : zW s x = true ↔ x.l ≠ 0 /\ ∀ i,x.l.testBit i = true -> i < s.truths.length /\ dryT s i x.p x.m = true:=by
 unfold zW
 rw [Bool.and_eq_true,beq_iff_eq,bne_iff_ne]
 constructor
 ·rintro ⟨h1,h2⟩
  refine ⟨h2,fun i hi=>?_⟩
  have h:=zb3 x.l (drN s x.p x.m) i
  rw [h1,Nat.zero_testBit,hi,drN_bit] at h
  simpa using h.symm
 ·rintro ⟨h1,h2⟩
  refine ⟨vk fun i=>?_,h1⟩
  rw [zb3,Nat.zero_testBit,drN_bit]
  cases hi : x.l.testBit i with
  | false=>rfl
  | true =>
    obtain ⟨h3,h4⟩:=h2 i hi
    rw [decide_eq_true h3,h4];rfl
theorem afterS_eq {s : Sn} {x : Sta} {t : Int × Int} (h : zm s x t ≠ []) : zm s x t = outS s x t:=by
 unfold zm at h ⊢
 split
 ·rfl
 ·rename_i hc;rw [if_neg hc] at h;exact absurd rfl h
theorem zb7 {s : Sn} {x y : Sta} {t : Int × Int} : y ∈ outS s x t ↔ y.p = t.1.toNat /\ y.m = (x.m + t.2).toNat /\ y.l ∈ zC s t.1.toNat x.l:=by
 unfold outS
 rw [List.mem_map]
 constructor
 ·rintro ⟨l,hl,rfl⟩;exact ⟨rfl,rfl,hl⟩
 ·rintro ⟨h1,h2,h3⟩
  refine ⟨y.l,h3,?_⟩
  cases y;dsimp only at h1 h2 ⊢;rw [h1,h2]
theorem zbS {f : Sta -> Int} {c : Int} {l : List Sta} (h : l ≠ []) (hf : ∀ y ∈ l,c <= f y) : c <= minL f l:=by
 obtain ⟨⟨y,hy,e⟩,-⟩:=jZ (f:=f) h
 rw [e];exact hf y hy
theorem bestZ_ge {s : Sn} (f : Sta -> Int) (x : Sta) : -1 <= zM s f x:=by
 unfold zM
 split
 ·have:=(jv (f:=fun t=>zP s f x t) (l:=zT s x) (b:=ye s x)).2.1
  have : -1 <= ye s x:=by unfold ye;split <;> omega
  omega
 ·omega
theorem worthK_ge (s : Sn) : ∀ k x,-1 <= yD s k x
 | 0,_=>Int.le_refl _
 | k + 1,x=>by rw [yD];exact bestZ_ge _ _
theorem yQ (s : Sn) (x : Sta) : -1 <= zi s x:=worthK_ge s _ x
end GA
end
section
namespace GA
open Go Go.RowKit Go.Proofs
def realB (s : Sn) (p : Int) (t : Int × Int) : Bool:=if t.1 = p then t.2 == 1 else s.ways.any fun w=>yh w p t.1 && w.2.2 == t.2
theorem yT {w : Wy} {p q : Int} : yh w p q = true ↔ (w.1 = p /\ w.2.1 = q) \/ (w.1 = q /\ w.2.1 = p):=by
 unfold yh
 simp only [Bool.or_eq_true,Bool.and_eq_true,beq_iff_eq]
theorem agnI_ne {s : Sn} (ok : SnOk s) {w : Wy} (hw : w ∈ s.ways) : w.1 ≠ w.2.1:=by
 obtain ⟨i,hi,rfl⟩:=List.getElem_of_mem hw
 have h:=ok.wa i hi
 unfold agnI wyB at h
 rw [List.getD_eq_getElem?_getD,List.getElem?_eq_getElem hi,Bool.or_eq_false_iff] at h
 exact fun e=>by
  have:=h.1
  rw [beq_eq_false_iff_ne] at this
  exact this e
theorem zaA {s : Sn} (ok : SnOk s) {p : Nat} (hp : (p : Int) < s.places) (t : Int × Int) : (waysL s p).contains t = realB s p t:=by
 rw [Bool.eq_iff_iff,List.contains_iff_mem]
 unfold waysL
 rw [wj]
 unfold realB
 constructor
 ·rintro ⟨q,hq,h⟩
  unfold jf at h
  rcases List.mem_append.1 h with h | h
  ·split at h
   ·rw [List.mem_singleton] at h;subst h;rw [if_pos rfl];rfl
   ·cases h
  ·obtain ⟨w,hw,rfl⟩:=List.mem_map.1 h
   rw [List.mem_filter] at hw
   have hl:=yT.1 hw.2
   have hne:=agnI_ne ok hw.1
   rw [if_neg (by dsimp only;intro e;rcases hl with h | h <;> omega),List.any_eq_true]
   exact ⟨w,hw.1,by rw [hw.2];simp⟩
 ·intro h
  split at h
  ·rename_i e
   have e2 : t.2 = 1:=by simpa using h
   refine ⟨p,by omega,?_⟩
   have : t = ((p : Int),(1 : Int)):=by cases t;dsimp only at e e2;rw [e,e2]
   rw [this];exact gR
  ·rename_i e
   obtain ⟨w,hw,h⟩:=List.any_eq_true.1 h
   rw [Bool.and_eq_true,beq_iff_eq] at h
   have hl:=yT.1 h.1
   have hwp:=ok.wp w hw
   have ht : 0 <= t.1 /\ t.1 < s.places:=by rcases hl with h | h <;> omega
   refine ⟨t.1.toNat,by omega,?_⟩
   unfold jf
   refine List.mem_append_right _ (List.mem_map.2 ⟨w,List.mem_filter.2 ⟨hw,by rw [show ((t.1.toNat : Nat) : Int) = t.1 by omega];exact h.1⟩,?_⟩)
   have e5 : ((t.1.toNat : Nat) : Int) = t.1:=by omega
   rw [e5,h.2]
theorem agn_uniq {s : Sn} (ok : SnOk s) {i j : Nat} (hi : i < s.ways.length) (hj : j < i) : yh (wyB s j) (wyB s i).1 (wyB s i).2.1 = false:=by
 have h:=ok.wa i hi
 unfold agnI at h
 rw [Bool.or_eq_false_iff] at h
 have h:=h.2
 rw [List.any_eq_false] at h
 have : wyB s j ∈ s.ways.take i:=by
  rw [List.mem_take_iff_getElem]
  exact ⟨j,by omega,by unfold wyB;rw [List.getD_eq_getElem?_getD,List.getElem?_eq_getElem (by omega)];rfl⟩
 simpa using h _ this
theorem g8 {α : Type} {f : α -> Bool} : ∀ {l : List α},(∀ i j (hi : i < l.length) (hj : j < l.length),f l[i] = true -> f l[j] = true -> i = j) -> (l.filter f = [] \/ ∃ x ∈ l,f x = true /\ l.filter f = [x])
 | [],_=>.inl rfl
 | x :: l,h=>by
   have ih:=g8 (f:=f) (l:=l) fun i j hi hj h1 h2=>by
    have:=h (i + 1) (j + 1) (by simp only [List.length_cons];omega) (by simp only [List.length_cons];omega) h1 h2
    omega
   by_cases hx : f x = true
   ·right
    refine ⟨x,List.mem_cons_self,hx,?_⟩
    rw [List.filter_cons,if_pos hx]
    rcases ih with ih | ⟨y,hy,hf,-⟩
    ·rw [ih]
    ·obtain ⟨j,hj,rfl⟩:=List.getElem_of_mem hy
     have:=h 0 (j + 1) (by simp) (by simp only [List.length_cons];omega) hx hf
     omega
   ·rw [List.filter_cons,if_neg hx]
    rcases ih with ih | ⟨y,hy,hf,e⟩
    ·exact .inl ih
    ·exact .inr ⟨y,List.mem_cons_of_mem _ hy,hf,e⟩
theorem waysQ_one {s : Sn} (ok : SnOk s) {p q : Nat} : jf s p q = [] \/ ∃ m : Int,1 <= m /\ m <= 20 /\ jf s p q = [((q : Int),m)]:=by
 have hone:=g8 (f:=fun w=>yh w p q) (l:=s.ways) fun i j hi hj h1 h2=>by
  refine Classical.byContradiction fun hij=>?_
  have key : ∀ i j (hi : i < s.ways.length) (hj : j < s.ways.length),j < i -> yh s.ways[i] p q = true -> yh s.ways[j] p q = true -> False:=fun i j hi hj hlt h1 h2=>by
   have hu:=agn_uniq ok hi hlt
   have e1 : wyB s i = s.ways[i]:=by unfold wyB;rw [List.getD_eq_getElem?_getD,List.getElem?_eq_getElem hi];rfl
   have e2 : wyB s j = s.ways[j]:=by unfold wyB;rw [List.getD_eq_getElem?_getD,List.getElem?_eq_getElem hj];rfl
   rw [e1,e2,<- Bool.not_eq_true,yT] at hu
   have:=yT.1 h1
   have:=yT.1 h2
   exact hu (by omega)
  rcases Nat.lt_or_gt_of_ne hij with h | h
  ·exact key j i hj hi h h2 h1
  ·exact key i j hi hj h h1 h2
 unfold jf
 by_cases e : p = q
 ·right
  rw [if_pos e]
  have : s.ways.filter (fun w=>yh w p q) = []:=by
   rw [List.filter_eq_nil_iff]
   intro w hw h
   have:=agnI_ne ok hw
   have:=yT.1 h
   omega
  rw [this,e]
  exact ⟨1,by omega,by omega,rfl⟩
 ·rw [if_neg e]
  rcases hone with h | ⟨w,hw,hf,h⟩
  ·left;rw [h];rfl
  ·right
   rw [h]
   exact ⟨w.2.2,(ok.wm w hw).1,(ok.wm w hw).2,rfl⟩
def goB (s : Sn) (x : Sta) (t : Int × Int) : Bool:=!(zm s x t).isEmpty
theorem goB_iff {s : Sn} {x : Sta} {t : Int × Int} : goB s x t = true ↔ zm s x t ≠ []:=by unfold goB;cases zm s x t <;> simp
def stpQ (s : Sn) (x : Sta) (q : Nat) : Nat -> List (Int × Int)
 | 0=>[]
 | m + 1=>stpQ s x q m ++ if goB s x ((q : Int),((m + 1 : Nat) : Int)) = true then [((q : Int),((m + 1 : Nat) : Int))] else []
def stpK (s : Sn) (x : Sta) : Nat -> List (Int × Int)
 | 0=>[]
 | q + 1=>stpK s x q ++ stpQ s x q 20
theorem goB_way {s : Sn} {x : Sta} {t : Int × Int} (h : goB s x t = true) : t ∈ waysL s x.p:=by
 obtain ⟨y,hy⟩:=List.exists_mem_of_ne_nil _ (goB_iff.1 h)
 exact (jH hy).2.2.2.1
theorem waysQ_to {s : Sn} {p q : Nat} {t : Int × Int} (h : t ∈ jf s p q) : t.1 = q:=by
 unfold jf at h
 rcases List.mem_append.1 h with h | h
 ·split at h
  ·rename_i e;rw [List.mem_singleton] at h;subst h;dsimp only;omega
  ·cases h
 ·obtain ⟨w,-,rfl⟩:=List.mem_map.1 h;rfl
theorem way_Q {s : Sn} {p q : Nat} {m : Int} (h : ((q : Int),m) ∈ waysL s p) : ((q : Int),m) ∈ jf s p q:=by
 obtain ⟨k,hk,h⟩:=wj.1 h
 have:=waysQ_to h
 dsimp only at this
 have e : k = q:=by omega
 rwa [e] at h
theorem zb1 {s : Sn} {x : Sta} {q : Nat} : ∀ {k : Nat},(∀ m : Nat,1 <= m -> m <= k -> goB s x ((q : Int),(m : Int)) = false) -> stpQ s x q k = []
 | 0,_=>rfl
 | k + 1,h=>by
   rw [stpQ,zb1 fun m h1 h2=>h m h1 (by omega),h (k + 1) (by omega) (Nat.le_refl _)];rfl
theorem stpQ_eq {s : Sn} (ok : SnOk s) (x : Sta) (q : Nat) : stpQ s x q 20 = (jf s x.p q).filter (goB s x):=by
 rcases waysQ_one ok (p:=x.p) (q:=q) with h | ⟨m,h1,h2,h⟩
 ·rw [h,List.filter_nil]
  refine zb1 fun m _ _=>?_
  rw [<- Bool.not_eq_true]
  intro hg
  have:=way_Q (goB_way hg)
  rw [h] at this;cases this
 ·rw [h]
  obtain ⟨n,rfl⟩ : ∃ n : Nat,m = n:=⟨m.toNat,by omega⟩
  have hother : ∀ k : Nat,k ≠ n -> goB s x ((q : Int),(k : Int)) = false:=fun k hk=>by
   rw [<- Bool.not_eq_true]
   intro hg
   have:=way_Q (goB_way hg)
   rw [h,List.mem_singleton,Prod.mk.injEq] at this
   omega
  have key : ∀ k,stpQ s x q k = if n <= k then [((q : Int),(n : Int))].filter (goB s x) else []:=fun k=>by
   induction k with
   | zero=>rw [if_neg (by omega)];rfl
   | succ k ih =>
     rw [stpQ,ih]
     by_cases e : n = k + 1
     ·rw [if_neg (show ¬ n <= k by omega),if_pos (show n <= k + 1 by omega),List.nil_append,List.filter_cons,List.filter_nil,e]
     ·have hf:=hother (k + 1) (fun h=>e h.symm)
      rw [if_neg (show ¬ goB s x ((q : Int),((k + 1 : Nat) : Int)) = true by rw [hf];simp),List.append_nil]
      by_cases e2 : n <= k
      ·rw [if_pos e2,if_pos (show n <= k + 1 by omega)]
      ·rw [if_neg e2,if_neg (show ¬ n <= k + 1 by omega)]
  rw [key,if_pos (show n <= 20 by omega)]
theorem stpK_eq {s : Sn} (ok : SnOk s) (x : Sta) : ∀ k,stpK s x k = (yc s x.p k).filter (goB s x)
 | 0=>rfl
 | k + 1=>by rw [stpK,yc,List.filter_append,stpK_eq ok x k,stpQ_eq ok]
theorem stepsS_go (s : Sn) (x : Sta) : zT s x = (waysL s x.p).filter (goB s x):=rfl
end GA
end
section
namespace GA
open Go Go.RowKit Go.Proofs
theorem yC.app {P : Program} {H : List Blk} : ∀ {us us' bs bs' : List AV},yC P H us us' -> yC P H bs bs' -> yC P H (us ++ bs) (us' ++ bs')
 | us,us',bs,bs',h1,h2=>by
   refine ⟨by rw [List.length_append,List.length_append,h1.1,h2.1],fun j x e=>?_⟩
   by_cases h : j < us'.length
   ·rw [List.getElem?_append_left h] at e
    rw [List.getElem?_append_left (by rw [<- h1.1];exact h)]
    exact h1.2 j x e
   ·rw [List.getElem?_append_right (by omega)] at e
    rw [List.getElem?_append_right (by rw [<- h1.1];omega),<- h1.1]
    exact h2.2 _ x e
theorem dskFOne (s : Sn) : ∀ x ∈ zau s,x.one = true:=fun x hx=>by
 unfold zau dryC at hx
 rcases List.mem_append.1 hx with h | h
 ·exact gZ s x h
 ·rcases List.mem_append.1 h with h | h
  ·obtain ⟨y,-,rfl⟩:=List.mem_map.1 h;rfl
  ·rw [List.mem_singleton] at h;subst h;rfl
theorem esW_frz {s : Sn} {p : Nat} {R : List (Int × Int)} (hR : R = waysL s p) (hne : waysL s p ≠ []) : FrzE 2 R.length R.isEmpty (sgs R) (esW s p R) (esF s (p + 1)):=by
 subst hR
 have he : (waysL s p).isEmpty = false:=by cases h : waysL s p with | nil=>exact absurd h hne | cons _ _=>rfl
 unfold esW
 rw [if_neg (by rw [he];simp),zci,he]
 refine ⟨by rw [List.map_append,List.map_append];rfl,fun j q x' e=>?_⟩
 by_cases h : j < (esF s p).length
 ·rw [List.getElem?_append_left h] at e ⊢
  exact ⟨x',e,.inl rfl⟩
 ·rw [List.getElem?_append_right (by omega)] at e ⊢
  cases h2 : j - (esF s p).length with
  | zero =>
    rw [h2] at e
    simp only [List.getElem?_cons_zero,Option.some.injEq,Prod.mk.injEq] at e
    obtain ⟨rfl,rfl⟩:=e
    exact ⟨_,rfl,.inr ⟨rfl,rfl⟩⟩
  | succ n=>rw [h2] at e;simp at e
theorem yp (s : Sn) (hb : SnB s) (hE : snE s ≠ 0) : Comp Tryz.prog 55 [snA s] (.tup [.nilp,.int .i64 (snE s)]):=by
 have hc:=jp s hb
 generalize snE s = e at hE hc
 refine Comp.body (T:=tab) (res:=[.tmp 2,.tmp 3]) za [] Tryz.func55 rfl (by kernel_rfl) Tryz.ntmps55 rfl (by simp only [List.length_cons,List.length_nil];decide) (by simp only [lowL,snL];rfl) ?_;conv=>whnf
 repeat' first|((with_reducible first|refine XBr.y2 fun h=>?_|refine XBr.n2 fun h=>?_|refine XBr.bne (fun h=>?_) fun h=>?_) <;> conv=>whnf)|((refine zb.ret hc ?_);conv=>whnf)|fail
 exact ⟨.low rfl⟩
theorem XInt.shl {i : Nat} {k : AV -> Prop} (hi : i <= 62) (h : k (natA (2 ^ i))) : XInt .i64 (1 * 2 ^ min (i : Int).toNat IntKind.i64.bits) k:=by
 rw [shl_nat (by omega)]
 have h1 : 2 ^ i <= 2 ^ 62:=Nat.pow_le_pow_right (by omega) hi
 have h2 : (2 : Nat) ^ 62 = 4611686018427387904:=by decide
 rw [h2] at h1
 generalize 2 ^ i = q at h h1
 exact XInt.i64 (by omega) (by omega) h
def dkC (s : Sn) (F : Nat -> Nat) (m : AV) : List AV:=snC s ++ (nvs 305 F ++ [m])
theorem vl {n : Nat} (s : Sn) (F : Nat -> Nat) {m : AV} (h : m.low n = true) : lowL n (dkC s F m) = true:=jC (snCL s) (jC (zbA _ _) (by show (m.low n && true) = true;rw [h];rfl))
theorem dkC_at (s : Sn) (F : Nat -> Nat) (m : AV) {j : Nat} (hj : j < 305) : (dkC s F m)[7 + j]? = some (natA (F j)):=by
 unfold dkC
 rw [List.getElem?_append_right (by show 7 <= 7 + j;omega),show 7 + j - (snC s).length = j by show 7 + j - 7 = j;omega,List.getElem?_append_left (by rw [ji];omega)]
 exact fL hj
theorem dkC_set (s : Sn) (F : Nat -> Nat) (m : AV) {j v : Nat} (hj : j < 305) : (dkC s F m).set (7 + j) (natA v) = dkC s (updV F j v) m:=by
 unfold dkC
 rw [List.set_append_right _ _ (by show 7 <= 7 + j;omega),show 7 + j - (snC s).length = j by show 7 + j - 7 = j;omega,List.set_append_left _ _ (by rw [ji];omega)]
 unfold nvs
 rw [<- List.map_set,yA]
theorem dkC_len (s : Sn) (F : Nat -> Nat) (m : AV) : (dkC s F m).length = 313:=by unfold dkC;rw [List.length_append,List.length_append,ji];rfl
theorem xspl_at {v : AV} : ∀ {c : List AV} {o : Nat} {k : List AV -> Prop},o < c.length -> k (c.set o v) -> xspl c o [v] k
 | [],o,k,h,_=>by simp at h
 | x :: c,0,k,h,hk=>by
   show xspl c 0 [] fun l=>k (v :: l)
   cases c <;> exact hk
 | x :: c,o + 1,k,h,hk=>xspl_at (c:=c) (o:=o) (k:=fun l=>k (x :: l)) (by simpa using h) hk
theorem xspl_dk {s : Sn} {F : Nat -> Nat} {m v : AV} {o : Nat} {k : List AV -> Prop} (j v' : Nat) (ho : o = 7 + j) (hj : j < 305) (hv : v = natA v') (h : k (dkC s (updV F j v') m)) : xspl (dkC s F m) o [v] k:=by
 subst ho hv
 refine xspl_at (by rw [dkC_len];omega) ?_
 rw [dkC_set _ _ _ hj];exact h
theorem xdrop_dk {s : Sn} {F : Nat -> Nat} {m : AV} {o : Nat} {k : List AV -> Prop} (j : Nat) (ho : o = 7 + j) (hj : j < 305) (h : k (natA (F j) :: (dkC s F m).drop (o + 1))) : xdrop o (dkC s F m) k:=by
 subst ho
 exact zcr _ (dkC_at s F m hj) h
def rowW (s : Sn) (p q w : Nat) : List (Int × Int):=yc s p q ++ ((if p = q then [((p : Int),(1 : Int))] else []) ++ ((s.ways.take w).filter fun w=>yh w p q).map fun w=>((q : Int),w.2.2))
theorem rowW_0 (s : Sn) (p q : Nat) : rowW s p q 0 = yc s p q ++ if p = q then [((p : Int),(1 : Int))] else []:=by unfold rowW;rw [List.take_zero,List.filter_nil,List.map_nil,List.append_nil]
theorem zcO (s : Sn) (p q : Nat) : rowW s p q s.ways.length = yc s p (q + 1):=by unfold rowW;rw [List.take_length];rfl
theorem zaU {s : Sn} {p q w : Nat} (h : w < s.ways.length) : rowW s p q (w + 1) = if yh (s.ways.getD w default) p q = true then rowW s p q w ++ [((q : Int),(s.ways.getD w default).2.2)] else rowW s p q w:=by
 unfold rowW
 rw [zD h,List.filter_append,List.map_append]
 by_cases hl : yh (s.ways.getD w default) p q = true
 ·rw [if_pos hl,List.filter_cons,if_pos hl];simp
 ·rw [if_neg hl,List.filter_cons,if_neg hl];simp
theorem yo (s : Sn) (p : Nat) : ∀ q,(yc s p q).length <= q * (1 + s.ways.length)
 | 0=>by simp [yc]
 | q + 1=>by
   have h:=yo s p q
   have h2 : (s.ways.filter fun w=>yh w p q).length <= s.ways.length:=List.length_filter_le _ _
   rw [yc,List.length_append,Nat.add_mul]
   unfold jf
   rw [List.length_append,List.length_map]
   split <;> simp only [List.length_cons,List.length_nil] <;> omega
theorem zcE (s : Sn) (p q w : Nat) : (rowW s p q w).length <= (q + 1) * (1 + s.ways.length):=by
 have h:=yo s p q
 have h2 : ((s.ways.take w).filter fun w=>yh w p q).length <= s.ways.length:=Nat.le_trans (List.length_filter_le _ _) (by rw [List.length_take];omega)
 unfold rowW
 rw [List.length_append,List.length_append,List.length_map,Nat.add_mul]
 split <;> simp only [List.length_cons,List.length_nil] <;> omega
def rwB (R : List (Int × Int)) : Blk:=.grow 32 R.isEmpty (sgs R)
theorem zbD (R : List (Int × Int)) : R.isEmpty = (sgs R).isEmpty:=by cases R <;> rfl
theorem zbL (R : List (Int × Int)) (x : Int × Int) : rwB (R ++ [x]) = .grow 32 (R.isEmpty && false) (sgs R ++ [sgA x]):=by
 unfold rwB sgs;rw [zy,List.map_append];rfl
set_option maxHeartbeats 4000000 in
theorem z4 (s : Sn) (hb : SnB s) (ok : SnOk s) : Comp Tryz.prog 55 [snA s] (.tup [zF s,.int .i64 0]):=by
 have hc:=jp s hb
 rw [zO.2 ok] at hc
 have p1:=ok.p1;have p2:=ok.p2;have t1:=ok.t1;have t2:=ok.t2;have l1:=ok.l1;have l2:=ok.l2;have w1:=ok.w1
 have e3 : ((s.truths.map trA).length : Int) = s.truths.length:=by rw [List.length_map]
 refine Comp.body (T:=tab) (res:=[.tmp 2,.tmp 3]) za [25] Tryz.func55 rfl (by kernel_rfl) Tryz.ntmps55 rfl (by simp only [List.length_cons,List.length_nil];decide) (by simp only [lowL,snL];rfl) ?_;conv=>whnf
 repeat' first|((with_reducible first|refine XBr.y2 fun h=>?_|refine XBr.n2 fun h=>?_|refine XBr.bne (fun h=>?_) fun h=>?_) <;> conv=>whnf)|((refine zb.ret hc ?_);conv=>whnf)|fail
 refine Walk.loopGK za [] [(1,_),(2,_),(3,_),(5,_),(27,_),(28,_)] ⟨rfl,rfl,rfl,rfl,rfl,rfl,trivial⟩ (fun i : Nat=>i <= s.truths.length) (fun i=>[(29,natA i)]) (fun i=>[.map [],.cells (dkC s (dryG s.truths.length (dryV s i 0 0)) (.mp 0))]) (fun i=>s.truths.length - i) 0 (Nat.zero_le _) (by show [Blk.map [],Blk.cells (dkC s (dryG s.truths.length (dryV s 0 0 0)) (.mp 0))] = _;rw [dryG_beg];unfold dkC;rw [<- nvs0];rfl) ⟨rfl,trivial⟩ ?_ (fun _ _=>(show (2 : Nat) <= 2 from Nat.le_refl 2)) ?_
 ·intro i _
  refine ⟨fun z hz=>?_,fun z hz=>?_⟩
  ·simp only [List.mem_cons,List.not_mem_nil,or_false] at hz
   rcases hz with rfl | rfl <;> first | rfl|exact vl s _ rfl
  ·simp only [List.cons_append,List.nil_append,List.mem_cons,List.not_mem_nil,or_false] at hz
   rcases hz with rfl | rfl | rfl | rfl | rfl | rfl | rfl <;> first | rfl|exact yO _|exact snCL s
 intro i hi
 conv=>whnf
 by_cases hlt : i < s.truths.length
 ·have hmem : s.truths.getD i default ∈ s.truths:=zk hlt
  have htl:=ok.tl _ hmem
  have e4 : (((s.truths.getD i default).2.map spsA).length : Int) = (s.truths.getD i default).2.length:=by rw [List.length_map]
  repeat' first|((with_reducible first|refine XBr.y fun h=>?_|refine XBr.n fun h=>?_|refine XBr.dec (fun h=>?_) fun h=>?_) <;> conv=>whnf)|(refine XIx.a ?_;conv=>whnf)|fail
  refine Walk.loopK za [] [(1,_),(2,_),(3,_),(5,_),(6,_),(27,_),(28,_),(29,_),(35,_),(36,_)] ⟨rfl,rfl,rfl,rfl,rfl,rfl,rfl,rfl,rfl,rfl,trivial⟩ (fun p : Nat=>p <= (s.truths.getD i default).2.length) (fun p=>[(37,natA p)]) (fun p=>[.map [],.cells (dkC s (dryG s.truths.length (dryV s i p 0)) (.mp 0)),.cells [.sl (s.truths.getD i default).1 ((s.truths.getD i default).2.map spsA)]]) (fun p=>(s.truths.getD i default).2.length - p) 0 (Nat.zero_le _) rfl ⟨rfl,trivial⟩ ?_
  intro p hp
  conv=>whnf
  by_cases hlt2 : p < (s.truths.getD i default).2.length
  ·have hmem2 : (s.truths.getD i default).2.getD p default ∈ (s.truths.getD i default).2:=zk hlt2
   have hsp:=spE_ok (ok.sp _ hmem _ hmem2)
   have hlen:=hb.sl _ hmem _ hmem2
   have e5 : ((((s.truths.getD i default).2.getD p default).2.map sgA).length : Int) = ((s.truths.getD i default).2.getD p default).2.length:=by rw [List.length_map]
   repeat' first|((with_reducible first|refine XBr.y fun h=>?_|refine XBr.n fun h=>?_|refine XBr.dec (fun h=>?_) fun h=>?_) <;> conv=>whnf)|(refine XIx.a ?_;conv=>whnf)|fail
   refine Walk.loopGK za [] [(1,_),(2,_),(3,_),(5,_),(6,_),(8,_),(27,_),(28,_),(29,_),(35,_),(36,_),(37,_),(42,_),(43,_)] ⟨rfl,rfl,rfl,rfl,rfl,rfl,rfl,rfl,rfl,rfl,rfl,rfl,rfl,rfl,trivial⟩ (fun k : Nat=>k <= ((s.truths.getD i default).2.getD p default).2.length) (fun k=>[(44,natA k)]) (fun k=>[.map [],.cells (dkC s (dryG s.truths.length (dryV s i p k)) (.mp 0)),.cells [.sl (s.truths.getD i default).1 ((s.truths.getD i default).2.map spsA)]]) (fun k=>((s.truths.getD i default).2.getD p default).2.length - k) 0 (Nat.zero_le _) rfl ⟨rfl,trivial⟩ ?_ (fun _ _=>(show (3 : Nat) <= 3 from Nat.le_refl 3)) ?_
   ·intro k _
    refine ⟨fun z hz=>?_,fun z hz=>?_⟩
    ·simp only [List.mem_cons,List.not_mem_nil,or_false] at hz
     rcases hz with rfl | rfl | rfl <;> first | rfl|exact vl s _ rfl|(simp only [Blk.low,lowL,AV.low,y9];rfl)
    ·simp only [List.cons_append,List.nil_append,List.mem_cons,List.not_mem_nil,or_false] at hz
     rcases hz with rfl | rfl | rfl | rfl | rfl | rfl | rfl | rfl | rfl | rfl | rfl | rfl | rfl | rfl | rfl <;> first | rfl|exact yO _|exact snCL s|exact y9 _|exact zN _
   intro k hk
   conv=>whnf
   by_cases hlt3 : k < ((s.truths.getD i default).2.getD p default).2.length
   ·have hx:=hsp _ (zk hlt3 (d:=default))
    obtain ⟨lo,hlo⟩ : ∃ lo : Nat,(((s.truths.getD i default).2.getD p default).2.getD k default).1 = lo:=⟨(((s.truths.getD i default).2.getD p default).2.getD k default).1.toNat,by omega⟩
    obtain ⟨hh,hhi⟩ : ∃ hh : Nat,(((s.truths.getD i default).2.getD p default).2.getD k default).2 = hh:=⟨(((s.truths.getD i default).2.getD p default).2.getD k default).2.toNat,by omega⟩
    repeat' first|((with_reducible first|refine XBr.y fun h=>?_|refine XBr.n fun h=>?_|refine XBr.dec (fun h=>?_) fun h=>?_) <;> conv=>whnf)|(refine XIx.a ?_;conv=>whnf)|fail
    refine Walk.loopK za [] [(1,_),(2,_),(3,_),(5,_),(6,_),(8,_),(11,_),(27,_),(28,_),(29,_),(35,_),(36,_),(37,_),(42,_),(43,_),(44,_)] ⟨rfl,rfl,rfl,rfl,rfl,rfl,rfl,rfl,rfl,rfl,rfl,rfl,rfl,rfl,rfl,rfl,trivial⟩ (fun m : Nat=>lo <= m /\ m <= hh + 1) (fun m=>[(12,natA m)]) (fun m=>[.map [],.cells (dkC s (dryG s.truths.length (dryW s i p k m)) (.mp 0)),.cells [.sl (s.truths.getD i default).1 ((s.truths.getD i default).2.map spsA)],.cells (sgA (((s.truths.getD i default).2.getD p default).2.getD k default)).cells]) (fun m=>hh + 1 - m) lo ⟨Nat.le_refl _,by omega⟩ ?_ ⟨congrArg (fun z=>some (AV.int .i64 z)) hlo,trivial⟩ ?_
    ·have hbeg : dryW s i p k (lo : Int) = dryV s i p k:=by unfold dryV;rw [show (spX s i p k).1 = (lo : Int) from hlo]
     show [Blk.map [],Blk.cells (dkC s (dryG s.truths.length (dryW s i p k (lo : Int))) (.mp 0)),_,_] = _
     rw [hbeg];rfl
    rintro m ⟨hm1,hm2⟩
    conv=>whnf
    by_cases hlt4 : m < hh + 1
    ·have hpow : 2 ^ i <= 2 ^ 4:=Nat.pow_le_pow_right (by omega) (by omega)
     have hdl : dryG s.truths.length (dryW s i p k m) (61 * p + m) < 2 ^ s.truths.length:=jl _ _
     have hdl2 : 2 ^ s.truths.length <= 2 ^ 4:=Nat.pow_le_pow_right (by omega) (by omega)
     repeat' first|((with_reducible first|refine XBr.y fun h=>?_|refine XBr.n fun h=>?_|refine XBr.dec (fun h=>?_) fun h=>?_|refine XInt.a ?_|apply Chk.go|apply ChkA.go|apply ChkF.go|apply ChkB.go|apply zq.mk) <;> conv=>whnf)|(refine zh.a ?_;conv=>whnf)|(with_reducible first|apply XAnd.mk|exact trivial)|(exact zg.mk rfl rfl)|(((with_reducible refine XArr.ptr ?_ ?_ ?_);omega;omega);conv=>whnf)|(apply Walk.drawN (id:=17) za zd [25] [15] (hsC [_,_]) [_,_,_,_,_,_,_,_,_,_,_,_,_,_,_,_] (by kernel_rfl) rfl)|((first|refine xdrop_dk (61 * p + m) (by omega) (by omega) ?_|refine XInt.shl (by omega) ?_|refine xspl_dk (61 * p + m) (dryG s.truths.length (dryW s i p k m) (61 * p + m) ||| 2 ^ i) (by omega) (by omega) (congrArg (AV.int .i64) (ior_nat (by omega) (by omega))) ?_);conv=>whnf)|fail
     refine zj.go (m + 1) ⟨by omega,by omega⟩ (by omega) ?_ ⟨rfl,rfl,rfl,rfl,rfl,rfl,rfl,rfl,rfl,rfl,rfl,rfl,rfl,rfl,rfl,rfl,rfl,trivial⟩
     have hset:=dryG_set (T:=s.truths.length) (i:=i) (p:=p) (m:=m) (F:=dryW s i p k m) (F':=dryW s i p k ((m + 1 : Nat) : Int)) hlt (by omega) (fun t q n=>by
      have:=dryW_min (s:=s) (i:=i) (p:=p) (k:=k) (m:=m) (by unfold spX;omega) (by unfold spX;omega) t q n
      rwa [show ((m : Int) + 1) = ((m + 1 : Nat) : Int) by omega] at this)
     show [Blk.map [],Blk.cells (dkC s (dryG s.truths.length (dryW s i p k ((m + 1 : Nat) : Int))) (.mp 0)),_,_] = _
     rw [hset];rfl
    obtain rfl : m = hh + 1:=by omega
    repeat' ((with_reducible first|refine XBr.y fun h=>?_|refine XBr.n fun h=>?_|refine XBr.dec (fun h=>?_) fun h=>?_|refine XInt.a ?_) <;> conv=>whnf)
    refine zl.go (k + 1) [.cells (sgA (((s.truths.getD i default).2.getD p default).2.getD k default)).cells] (by omega) (by omega) ?_ ⟨rfl,rfl,rfl,rfl,rfl,rfl,rfl,rfl,rfl,rfl,rfl,rfl,rfl,rfl,rfl,trivial⟩
    have hspan:=dryV_span (s:=s) (i:=i) (p:=p) hlt3
    rw [show (spX s i p k).2 + 1 = ((hh + 1 : Nat) : Int) by unfold spX;omega] at hspan
    rw [hspan];rfl
   obtain rfl : k = ((s.truths.getD i default).2.getD p default).2.length:=by omega
   rw [dryV_row]
   repeat' ((with_reducible first|refine XBr.y fun h=>?_|refine XBr.n fun h=>?_|refine XBr.dec (fun h=>?_) fun h=>?_|refine XInt.a ?_) <;> conv=>whnf)
   exact zj.go (p + 1) (by omega) (by omega) rfl ⟨rfl,rfl,rfl,rfl,rfl,rfl,rfl,rfl,rfl,rfl,rfl,trivial⟩
  obtain rfl : p = (s.truths.getD i default).2.length:=by omega
  rw [zde]
  repeat' ((with_reducible first|refine XBr.y fun h=>?_|refine XBr.n fun h=>?_|refine XBr.dec (fun h=>?_) fun h=>?_|refine XInt.a ?_) <;> conv=>whnf)
  exact zl.go (i + 1) [.cells [.sl (s.truths.getD i default).1 ((s.truths.getD i default).2.map spsA)]] (by omega) (by omega) rfl ⟨rfl,rfl,rfl,rfl,rfl,rfl,rfl,trivial⟩
 obtain rfl : i = s.truths.length:=by omega
 clear hi
 generalize hF : dryG s.truths.length (dryV s s.truths.length 0 0) = F
 obtain ⟨P0,hP0⟩ : ∃ P0 : Nat,s.places = P0:=⟨s.places.toNat,by omega⟩
 repeat' ((with_reducible first|refine XBr.y fun h=>?_|refine XBr.n fun h=>?_|refine XBr.dec (fun h=>?_) fun h=>?_) <;> conv=>whnf)
 refine Walk.loopGK za [] [(1,_),(2,_),(3,_),(5,_),(75,_)] ⟨rfl,rfl,rfl,rfl,rfl,trivial⟩ (fun p : Nat=>p <= P0) (fun p=>[(76,natA p)]) (fun p=>[.map (esF s p),.cells (dkC s F (.mp 0))]) (fun p=>P0 - p) 0 (Nat.zero_le _) rfl ⟨rfl,trivial⟩ ?_ (fun _ _=>(show (2 : Nat) <= 2 from Nat.le_refl 2)) ?_
 ·intro p _
  refine ⟨fun z hz=>?_,fun z hz=>?_⟩
  ·simp only [List.mem_cons,List.not_mem_nil,or_false] at hz
   rcases hz with rfl | rfl <;> first|exact gE s p|exact vl s _ rfl
  ·simp only [List.cons_append,List.nil_append,List.mem_cons,List.not_mem_nil,or_false] at hz
   rcases hz with rfl | rfl | rfl | rfl | rfl | rfl <;> first | rfl|exact snCL s
 intro p hp
 conv=>whnf
 by_cases hlt : p < P0
 ·skip
  repeat' ((with_reducible first|refine XBr.y fun h=>?_|refine XBr.n fun h=>?_|refine XBr.dec (fun h=>?_) fun h=>?_) <;> conv=>whnf)
  refine Walk.nilrow 32 ?_
  refine Walk.thenDo ?_
  refine Walk.loopGK za [] [(1,_),(2,_),(3,_),(5,_),(13,_),(75,_),(76,_),(80,_)] ⟨rfl,rfl,rfl,rfl,rfl,rfl,rfl,rfl,trivial⟩ (fun q : Nat=>q <= P0) (fun q=>[(81,natA q)]) (fun q=>[.map (esW s p (yc s p q)),.cells (dkC s F (.mp 0)),rwB (yc s p q)]) (fun q=>P0 - q) 0 (Nat.zero_le _) (by show [Blk.map (esW s p []),_,rwB []] = _;rw [esW_nil];rfl) ⟨rfl,trivial⟩ ?_ (fun _ _=>(show (3 : Nat) <= 3 from Nat.le_refl 3)) ?_
  ·intro q _
   refine ⟨fun z hz=>?_,fun z hz=>?_⟩
   ·simp only [List.mem_cons,List.not_mem_nil,or_false] at hz
    rcases hz with rfl | rfl | rfl <;> first|exact zbd s p _|exact vl s _ rfl|exact gI _
   ·simp only [List.cons_append,List.nil_append,List.mem_cons,List.not_mem_nil,or_false] at hz
    rcases hz with rfl | rfl | rfl | rfl | rfl | rfl | rfl | rfl | rfl <;> first | rfl|exact snCL s
  intro q hq
  conv=>whnf
  by_cases hlt2 : q < P0
  ·by_cases hpq : p = q
   ·subst hpq
    have hlen:=yo s p p
    have hlen2 : p * (1 + s.ways.length) <= 5 * 11:=Nat.mul_le_mul (by omega) (by omega)
    have hst : [Blk.map (esW s p (rowW s p p 0)),Blk.cells (dkC s F (.mp 0)),rwB (rowW s p p 0)] = [.map (mput (p : Int) (.gr 2 ((yc s p p).length + 1)) (esW s p (yc s p p))),.cells (dkC s F (.mp 0)),.grow 32 ((yc s p p).isEmpty && false) (sgs (yc s p p) ++ [sgA ((p : Int),(1 : Int))])]:=by
     rw [rowW_0,if_pos rfl,<- zbs,zbL]
    generalize yc s p p = R at hlen hst
    have hsR : (sgs R).length = R.length:=qj R
    rw [<- hsR] at hst
    repeat' first|((with_reducible first|refine XBr.y fun h=>?_|refine XBr.n fun h=>?_|refine XBr.dec (fun h=>?_) fun h=>?_|refine XBr.y1 fun h=>?_|refine XBr.n1 fun h=>?_|refine XBr.beq (fun h=>?_) fun h=>?_|apply Chk.go|apply ChkA.go|apply ChkF.go|apply ChkB.go|apply zq.mk) <;> conv=>whnf)|(refine zh.a ?_;conv=>whnf)|(with_reducible first|apply XAnd.mk|exact trivial)|(exact zg.mk rfl rfl)|(apply Walk.drawN (id:=28) za zd [25] [14,15] (hsC [_,_,_]) [_,_,_,_,_,_,_,_,_,_,_,_,_,_,_,_] (by kernel_rfl) rfl)|((first|refine qR (a:=nvs 305 F) (b:=[.mp 0]) (ji _ _) ?_|refine kh.row 2 rfl (zbD _) (zbt s p _) ?_);conv=>whnf)|fail
    refine Walk.loopGK za [] [(1,_),(2,_),(3,_),(5,_),(13,_),(14,_),(75,_),(76,_),(80,_),(81,_),(103,_),(104,_)] ⟨rfl,rfl,rfl,rfl,rfl,rfl,rfl,rfl,rfl,rfl,rfl,rfl,trivial⟩ (fun w : Nat=>w <= s.ways.length) (fun w=>[(105,natA w)]) (fun w=>[.map (esW s p (rowW s p p w)),.cells (dkC s F (.mp 0)),rwB (rowW s p p w)]) (fun w=>s.ways.length - w) 0 (Nat.zero_le _) hst ⟨rfl,trivial⟩ ?_ (fun _ _=>(show (3 : Nat) <= 3 from Nat.le_refl 3)) ?_
    ·intro w _
     refine ⟨fun z hz=>?_,fun z hz=>?_⟩
     ·simp only [List.mem_cons,List.not_mem_nil,or_false] at hz
      rcases hz with rfl | rfl | rfl <;> first|exact zbd s p _|exact vl s _ rfl|exact gI _
     ·simp only [List.cons_append,List.nil_append,List.mem_cons,List.not_mem_nil,or_false] at hz
      rcases hz with rfl | rfl | rfl | rfl | rfl | rfl | rfl | rfl | rfl | rfl | rfl | rfl | rfl <;> first | rfl|exact snCL s|exact yB _
    intro w hw
    conv=>whnf
    by_cases hlt3 : w < s.ways.length
    ·have hnx:=zaU (p:=p) (q:=p) hlt3
     have hlen:=zcE s p p w
     have hlen2 : (p + 1) * (1 + s.ways.length) <= 5 * 11:=Nat.mul_le_mul (by omega) (by omega)
     have hld : yh (s.ways.getD w default) p p = true ↔ ((s.ways.getD w default).1 = (p : Int) /\ (s.ways.getD w default).2.1 = (p : Int)) \/ ((s.ways.getD w default).1 = (p : Int) /\ (s.ways.getD w default).2.1 = (p : Int)):=yT
     generalize rowW s p p w = R at hnx hlen
     have hsR : (sgs R).length = R.length:=qj R
     repeat' first|((with_reducible first|apply XBr.tt|apply XBr.ff|refine XBr.y fun h=>?_|refine XBr.n fun h=>?_|refine XBr.dec (fun h=>?_) fun h=>?_|refine XBr.y1 fun h=>?_|refine XBr.n1 fun h=>?_|refine XBr.beq (fun h=>?_) fun h=>?_|refine XInt.a ?_|apply Chk.go|apply ChkA.go|apply ChkF.go|apply ChkB.go|apply zq.mk) <;> conv=>whnf)|((first|refine zh.a ?_|refine XIx.a ?_);conv=>whnf)|(with_reducible first|apply XAnd.mk|exact trivial)|(exact zg.mk rfl rfl)|(((with_reducible refine XArr.ptr ?_ ?_ ?_);omega;omega);conv=>whnf)|(apply Walk.drawN (id:=33) za zd [25] [16,17] (hsC [_,_,_]) [_,_,_,_,_,_,_,_,_,_,_,_,_,_,_,_,_,_] (by kernel_rfl) rfl)|((first|refine Walk.norm za [] [(1,_),(2,_),(3,_),(5,_),(13,_),(14,_),(16,_),(75,_),(76,_),(80,_),(81,_),(103,_),(104,_),(105,_)] ⟨rfl,rfl,rfl,rfl,rfl,rfl,rfl,rfl,rfl,rfl,rfl,rfl,rfl,rfl,trivial⟩ ?_|refine qR (a:=nvs 305 F) (b:=[.mp 0]) (ji _ _) ?_|refine kh.row 2 rfl (zbD _) (zbt s p _) ?_);conv=>whnf)|fail
     all_goals first
      | (have hx : rowW s p p (w + 1) = R ++ [((p : Int),(s.ways.getD w default).2.2)]:=by rw [hnx,if_pos (hld.2 (by omega))]
         refine zl.go (w + 1) [.cells (wyA (s.ways.getD w default)).cells] (by omega) (by omega) ?_ ⟨rfl,rfl,rfl,rfl,rfl,rfl,rfl,rfl,rfl,rfl,rfl,rfl,rfl,trivial⟩
         show [Blk.map (esW s p (rowW s p p (w + 1))),_,rwB (rowW s p p (w + 1)),_] = _
         rw [hx,<- zbs,zbL,<- hsR];rfl)
      | (have hx : rowW s p p (w + 1) = R:=by rw [hnx,if_neg (fun h=>by have:=hld.1 h;omega)]
         refine zl.go (w + 1) [.cells (wyA (s.ways.getD w default)).cells] (by omega) (by omega) ?_ ⟨rfl,rfl,rfl,rfl,rfl,rfl,rfl,rfl,rfl,rfl,rfl,rfl,rfl,trivial⟩
         show [Blk.map (esW s p (rowW s p p (w + 1))),_,rwB (rowW s p p (w + 1)),_] = _
         rw [hx];rfl)
    obtain rfl : w = s.ways.length:=by omega
    rw [zcO]
    repeat' ((with_reducible first|refine XBr.y fun h=>?_|refine XBr.n fun h=>?_|refine XBr.dec (fun h=>?_) fun h=>?_|refine XInt.a ?_) <;> conv=>whnf)
    exact zl.go (p + 1) [] (by omega) (by omega) rfl ⟨rfl,rfl,rfl,rfl,rfl,rfl,rfl,rfl,rfl,trivial⟩
   ·have hst : [Blk.map (esW s p (rowW s p q 0)),Blk.cells (dkC s F (.mp 0)),rwB (rowW s p q 0)] = [.map (esW s p (yc s p q)),.cells (dkC s F (.mp 0)),rwB (yc s p q)]:=by
     rw [rowW_0,if_neg hpq,List.append_nil]
    repeat' ((with_reducible first|refine XBr.y fun h=>?_|refine XBr.n fun h=>?_|refine XBr.dec (fun h=>?_) fun h=>?_|refine XBr.y1 fun h=>?_|refine XBr.n1 fun h=>?_|refine XBr.beq (fun h=>?_) fun h=>?_) <;> conv=>whnf)
    refine Walk.loopGK za [] [(1,_),(2,_),(3,_),(5,_),(13,_),(14,_),(75,_),(76,_),(80,_),(81,_),(103,_),(104,_)] ⟨rfl,rfl,rfl,rfl,rfl,rfl,rfl,rfl,rfl,rfl,rfl,rfl,trivial⟩ (fun w : Nat=>w <= s.ways.length) (fun w=>[(105,natA w)]) (fun w=>[.map (esW s p (rowW s p q w)),.cells (dkC s F (.mp 0)),rwB (rowW s p q w)]) (fun w=>s.ways.length - w) 0 (Nat.zero_le _) hst ⟨rfl,trivial⟩ ?_ (fun _ _=>(show (3 : Nat) <= 3 from Nat.le_refl 3)) ?_
    ·intro w _
     refine ⟨fun z hz=>?_,fun z hz=>?_⟩
     ·simp only [List.mem_cons,List.not_mem_nil,or_false] at hz
      rcases hz with rfl | rfl | rfl <;> first|exact zbd s p _|exact vl s _ rfl|exact gI _
     ·simp only [List.cons_append,List.nil_append,List.mem_cons,List.not_mem_nil,or_false] at hz
      rcases hz with rfl | rfl | rfl | rfl | rfl | rfl | rfl | rfl | rfl | rfl | rfl | rfl | rfl <;> first | rfl|exact snCL s|exact yB _
    intro w hw
    conv=>whnf
    by_cases hlt3 : w < s.ways.length
    ·have hnx:=zaU (p:=p) (q:=q) hlt3
     have hlen:=zcE s p q w
     have hlen2 : (q + 1) * (1 + s.ways.length) <= 5 * 11:=Nat.mul_le_mul (by omega) (by omega)
     have hld : yh (s.ways.getD w default) p q = true ↔ ((s.ways.getD w default).1 = (p : Int) /\ (s.ways.getD w default).2.1 = (q : Int)) \/ ((s.ways.getD w default).1 = (q : Int) /\ (s.ways.getD w default).2.1 = (p : Int)):=yT
     generalize rowW s p q w = R at hnx hlen
     have hsR : (sgs R).length = R.length:=qj R
     repeat' first|((with_reducible first|apply XBr.tt|apply XBr.ff|refine XBr.y fun h=>?_|refine XBr.n fun h=>?_|refine XBr.dec (fun h=>?_) fun h=>?_|refine XBr.y1 fun h=>?_|refine XBr.n1 fun h=>?_|refine XBr.beq (fun h=>?_) fun h=>?_|refine XInt.a ?_|apply Chk.go|apply ChkA.go|apply ChkF.go|apply ChkB.go|apply zq.mk) <;> conv=>whnf)|((first|refine zh.a ?_|refine XIx.a ?_);conv=>whnf)|(with_reducible first|apply XAnd.mk|exact trivial)|(exact zg.mk rfl rfl)|(((with_reducible refine XArr.ptr ?_ ?_ ?_);omega;omega);conv=>whnf)|(apply Walk.drawN (id:=33) za zd [25] [16,17] (hsC [_,_,_]) [_,_,_,_,_,_,_,_,_,_,_,_,_,_,_,_,_,_] (by kernel_rfl) rfl)|((first|refine Walk.norm za [] [(1,_),(2,_),(3,_),(5,_),(13,_),(14,_),(16,_),(75,_),(76,_),(80,_),(81,_),(103,_),(104,_),(105,_)] ⟨rfl,rfl,rfl,rfl,rfl,rfl,rfl,rfl,rfl,rfl,rfl,rfl,rfl,rfl,trivial⟩ ?_|refine qR (a:=nvs 305 F) (b:=[.mp 0]) (ji _ _) ?_|refine kh.row 2 rfl (zbD _) (zbt s p _) ?_);conv=>whnf)|fail
     all_goals first
      | (have hx : rowW s p q (w + 1) = R ++ [((q : Int),(s.ways.getD w default).2.2)]:=by rw [hnx,if_pos (hld.2 (by omega))]
         refine zl.go (w + 1) [.cells (wyA (s.ways.getD w default)).cells] (by omega) (by omega) ?_ ⟨rfl,rfl,rfl,rfl,rfl,rfl,rfl,rfl,rfl,rfl,rfl,rfl,rfl,trivial⟩
         show [Blk.map (esW s p (rowW s p q (w + 1))),_,rwB (rowW s p q (w + 1)),_] = _
         rw [hx,<- zbs,zbL,<- hsR];rfl)
      | (have hx : rowW s p q (w + 1) = R:=by rw [hnx,if_neg (fun h=>by have:=hld.1 h;omega)]
         refine zl.go (w + 1) [.cells (wyA (s.ways.getD w default)).cells] (by omega) (by omega) ?_ ⟨rfl,rfl,rfl,rfl,rfl,rfl,rfl,rfl,rfl,rfl,rfl,rfl,rfl,trivial⟩
         show [Blk.map (esW s p (rowW s p q (w + 1))),_,rwB (rowW s p q (w + 1)),_] = _
         rw [hx];rfl)
    obtain rfl : w = s.ways.length:=by omega
    rw [zcO]
    repeat' ((with_reducible first|refine XBr.y fun h=>?_|refine XBr.n fun h=>?_|refine XBr.dec (fun h=>?_) fun h=>?_|refine XInt.a ?_) <;> conv=>whnf)
    exact zl.go (q + 1) [] (by omega) (by omega) rfl ⟨rfl,rfl,rfl,rfl,rfl,rfl,rfl,rfl,rfl,trivial⟩
  obtain rfl : q = P0:=by omega
  have hq : yc s p q = waysL s p:=by unfold waysL;rw [hP0];rfl
  repeat' ((with_reducible first|refine XBr.y fun h=>?_|refine XBr.n fun h=>?_|refine XBr.dec (fun h=>?_) fun h=>?_) <;> conv=>whnf)
  refine XDo.freezeMap 0 2 (yc s p q).length (esF s (p + 1)) rfl rfl (qj _) (esW_frz hq (waysL_ne (by omega))) ?_
  refine XDo.run ?_
  conv=>whnf
  repeat' ((with_reducible refine XInt.a ?_);conv=>whnf)
  exact zl.go (p + 1) [.dead] (by omega) (by omega) rfl ⟨rfl,rfl,rfl,rfl,rfl,rfl,trivial⟩
 obtain rfl : p = P0:=by omega
 have hp' : p = s.places.toNat:=by omega
 repeat' ((with_reducible first|refine XBr.y fun h=>?_|refine XBr.n fun h=>?_|refine XBr.dec (fun h=>?_) fun h=>?_) <;> conv=>whnf)
 subst hp' hF
 exact ⟨Froz.tup (.cons (Froz.ptr rfl (dskFOne s) (yC.app (.low (snCL s)) (yC.app (.low (zbA _ _)) (.cons (Froz.mp rfl (.low (gE s _))) .nil)))) (.cons (.low rfl) .nil))⟩
end GA
end
section
namespace GA
open Go Go.RowKit Go.Proofs
theorem dryC_at (s : Sn) (e : List AV) {p m : Nat} (hp : p < 5) (hm : m < 61) : (dryC s ++ e)[61 * p + m]? = some (natA (drN s p m)):=by
 have hl : (dryC s).length = 305:=ji _ _
 rw [List.getElem?_append_left (by omega),<- dryG_end s hm]
 exact fL (show 61 * p + m < 305 by omega)
theorem XArr.dryP {s : Sn} {e : List AV} {p : Int} {k : AV -> Prop} (q : Nat) (hq : p = q) (h1 : q < 5) (h : k (.pim ((dryC s ++ e).drop (61 * q)))) : XArr (.pim (dryC s ++ e)) p 5 61 k:=by
 subst hq
 refine XArr.pim (by omega) (by omega) ?_
 rwa [show (q : Int).toNat * 61 = 61 * q by omega]
theorem XArr.dryM {s : Sn} {e : List AV} {m : Int} {k : AV -> Prop} {p : Nat} (q : Nat) (hq : m = q) (h1 : q < 61) (h2 : p < 5) (h : k (.pim (natA (drN s p q) :: ((dryC s ++ e).drop (61 * p)).drop (q * 1 + 1)))) : XArr (.pim ((dryC s ++ e).drop (61 * p))) m 61 1 k:=by
 subst hq
 refine XArr.at _ (by omega) (by omega) ?_ h
 rw [List.getElem?_drop,show 61 * p + (q : Int).toNat * 1 = 61 * p + q by omega]
 exact dryC_at s e h2 h1
theorem drN_lt {s : Sn} (ok : SnOk s) (p m : Nat) : drN s p m < 16:=by
 have h : drN s p m < 2 ^ s.truths.length:=jl _ _
 have h2 : 2 ^ s.truths.length <= 2 ^ 4:=Nat.pow_le_pow_right (by omega) ok.t2
 omega
theorem qV (s : Sn) (ok : SnOk s) (x : Sta) (h1 : x.p < 5) (h2 : x.m < 61) (h3 : x.l <= 1000) : Comp Tryz.prog 239 [zF s,staA x] (.bool (zW s x)):=by
 have hd:=drN_lt ok x.p x.m
 have hn : iandn .i64 (x.l : Int) (drN s x.p x.m : Int) = ((diff x.l (drN s x.p x.m) : Nat) : Int):=iandn_nat (by omega) (by omega)
 have hdef : zW s x = (diff x.l (drN s x.p x.m) == 0 && x.l != 0):=rfl
 by_cases hv : iandn .i64 (x.l : Int) (drN s x.p x.m : Int) = 0
 ·have hb : zW s x = (x.l != 0):=by rw [hdef,show diff x.l (drN s x.p x.m) = 0 by omega];simp
  rw [hb]
  refine Comp.body (T:=tab) (res:=[.tmp 4]) za [] Tryz.func239 rfl (by kernel_rfl) Tryz.ntmps239 rfl (by simp only [List.length_cons,List.length_nil];decide) (by simp only [lowL,zG,staL];rfl) ?_;conv=>whnf
  repeat' first|((with_reducible first|refine XBr.y1 fun h=>?_|refine XBr.n1 fun h=>?_|refine XBr.beq (fun h=>?_) fun h=>?_|apply Chk.go|apply ChkA.go|apply ChkF.go|apply ChkB.go|apply zq.mk) <;> conv=>whnf)|(with_reducible first|apply XAnd.mk|exact trivial)|(exact zg.mk rfl rfl)|(apply Walk.drawN (id:=1) za zd [] [] (hsU _) [_,_,_,_,_,_,_,_,_,_,_,_,_,_,_,_,_,_,_,_] (by kernel_rfl) rfl)|((first|refine XArr.dryP x.p rfl h1 ?_|refine XArr.dryM x.m rfl h2 h1 ?_);conv=>whnf)|fail
  refine XOut.bool ?_
  rw [Bool.eq_iff_iff];simp
 ·have hb : zW s x = false:=by rw [hdef,beq_eq_false_iff_ne.2 (by omega)];rfl
  rw [hb]
  refine Comp.body (T:=tab) (res:=[.tmp 4]) za [] Tryz.func239 rfl (by kernel_rfl) Tryz.ntmps239 rfl (by simp only [List.length_cons,List.length_nil];decide) (by simp only [lowL,zG,staL];rfl) ?_;conv=>whnf
  repeat' first|((with_reducible first|refine XBr.y1 fun h=>?_|refine XBr.n1 fun h=>?_|refine XBr.beq (fun h=>?_) fun h=>?_|apply Chk.go|apply ChkA.go|apply ChkF.go|apply ChkB.go|apply zq.mk) <;> conv=>whnf)|(with_reducible first|apply XAnd.mk|exact trivial)|(exact zg.mk rfl rfl)|(apply Walk.drawN (id:=1) za zd [] [] (hsU _) [_,_,_,_,_,_,_,_,_,_,_,_,_,_,_,_,_,_,_,_] (by kernel_rfl) rfl)|((first|refine XArr.dryP x.p rfl h1 ?_|refine XArr.dryM x.m rfl h2 h1 ?_);conv=>whnf)|fail
  exact XOut.bool rfl
theorem yU (s : Sn) (m : Int) : Comp Tryz.prog 237 [zF s,.int .i64 m] (.bool (inZ m 0 s.last)):=by
 refine Comp.body (T:=tab) (res:=[.tmp 4]) za [] Tryz.func237 rfl (by kernel_rfl) Tryz.ntmps237 rfl (by simp only [List.length_cons,List.length_nil];decide) (by simp only [lowL,zG];rfl) ?_;conv=>whnf
 repeat' ((refine zb.ret (ka _ _ _) ?_);conv=>whnf)
 exact XOut.bool rfl
theorem vb (s : Sn) (ok : SnOk s) : Comp Tryz.prog 58 [zF s] (natA (allN s)):=by
 have t2:=ok.t2
 refine Comp.body (T:=tab) (res:=[.tmp 2]) za [] Tryz.func58 rfl (by kernel_rfl) Tryz.ntmps58 rfl (by simp only [List.length_cons,List.length_nil];decide) (by simp only [lowL,zG];rfl) ?_;conv=>whnf
 have hp : 0 < 2 ^ s.truths.length:=Nat.two_pow_pos _
 have hq : 2 ^ s.truths.length <= 2 ^ 4:=Nat.pow_le_pow_right (by omega) t2
 have hr : allN s = 2 ^ s.truths.length - 1:=rfl
 generalize hw : 2 ^ s.truths.length = q at hp hq hr
 repeat' first|((with_reducible refine XInt.a ?_);conv=>whnf)|(refine zh.a ?_;conv=>whnf)|(((rw [List.length_map];refine XInt.shl (by omega) ?_);rw [hw]);conv=>whnf)|fail
 exact XOut.int (by omega)
theorem f9 (s : Sn) (ok : SnOk s) (n : Int) : Comp Tryz.prog 198 [zF s,.int .i64 n] (.bool (inZ n 1 (allN s))):=by
 refine Comp.body (T:=tab) (res:=[.tmp 4]) za [] Tryz.func198 rfl (by kernel_rfl) Tryz.ntmps198 rfl (by simp only [List.length_cons,List.length_nil];decide) (by simp only [lowL,zG];rfl) ?_;conv=>whnf
 repeat' ((first|refine zb.ret (vb s ok) ?_|refine zb.ret (ka _ _ _) ?_);conv=>whnf)
 exact XOut.bool rfl
def nsA (l : List Nat) : AV:=.sl l.isEmpty (l.map natA)
theorem nsL {n : Nat} (l : List Nat) : lowL n (l.map natA) = true:=yr (fun _=>rfl) l
def ky (s : Sn) (p left n i : Nat) : Nat:=bsum (fun t=>ko s t p == n && left.testBit t) i
theorem zcp (s : Sn) (p left n i : Nat) : ky s p left n i < 2 ^ i:=jl _ _
theorem partI_hit {s : Sn} {p left n i : Nat} (h : ko s i p = n) : ky s p left n i |||(2 ^ i &&& left) = ky s p left n (i + 1):=by
 refine vk fun k=>?_
 unfold ky
 rw [Nat.testBit_or,Nat.testBit_and,y5,y5,Nat.testBit_two_pow]
 by_cases he : i = k
 ·subst he;rw [h];simp
 ·simp [he,show k < i + 1 ↔ k < i by omega]
theorem zdr {s : Sn} {p left n i : Nat} (h : ko s i p ≠ n) : ky s p left n i = ky s p left n (i + 1):=by
 unfold ky
 rw [bsum,if_neg (by simp [h])];rfl
theorem fi (s : Sn) (ok : SnOk s) (p left : Nat) (hp : (p : Int) < s.places) (hl : left <= 1000) : Comp Tryz.prog 238 [zF s,natA p,natA left] (nsA (zC s p left)):=by
 have p2:=ok.p2;have k1:=ok.k1;have t2:=ok.t2
 have e1 : ((s.looks.map rwA).length : Int) = s.looks.length:=by rw [List.length_map]
 refine Comp.body (T:=tab) (res:=[.tmp 6]) za [] Tryz.func238 rfl (by kernel_rfl) Tryz.ntmps238 rfl (by simp only [List.length_cons,List.length_nil];decide) (by simp only [lowL,AV.low,zG];rfl) ?_;conv=>whnf
 skip
 refine Walk.nilgr 7 3 rfl ?_
 refine Walk.loopGK za [] [(0,_),(1,_),(2,_),(6,_)] ⟨rfl,rfl,rfl,rfl,trivial⟩ (fun n : Nat=>n <= 4) (fun n=>[(7,.gr 0 (zJ s p left n).length),(12,natA n)]) (fun n=>[.grow 3 (zJ s p left n).isEmpty ((zJ s p left n).map natA)]) (fun n=>4 - n) 0 (by omega) rfl ⟨rfl,rfl,trivial⟩ ?_ (fun _ _=>(show (1 : Nat) <= 1 from Nat.le_refl 1)) ?_
 ·intro n _
  refine ⟨fun z hz=>?_,fun z hz=>?_⟩
  ·rw [List.mem_singleton] at hz;subst hz;exact nsL _
  ·simp only [List.cons_append,List.nil_append,List.mem_cons,List.not_mem_nil,or_false] at hz
   rcases hz with rfl | rfl | rfl | rfl | rfl | rfl <;> first | rfl|exact zG s
 intro n hn
 have hlen : (zJ s p left n).length <= n:=by
  clear hn
  induction n with
  | zero=>exact Nat.le_refl _
  | succ n ih=>rw [zJ,List.length_append];split <;> simp only [List.length_cons,List.length_nil] <;> omega
 have hnx : zJ s p left (n + 1) = zJ s p left n ++ if partN s p left n = 0 then [] else [partN s p left n]:=rfl
 have hend : n = 4 -> zJ s p left n = zC s p left:=fun h=>by rw [h];rfl
 generalize zJ s p left n = R at hlen hnx hend
 have hRl : (R.map natA).length = R.length:=List.length_map _
 conv=>whnf
 by_cases hlt : n < 4
 ·skip
  repeat' ((with_reducible first|refine XBr.y fun h=>?_|refine XBr.n fun h=>?_|refine XBr.dec (fun h=>?_) fun h=>?_) <;> conv=>whnf)
  refine Walk.loopK za [] [(0,_),(1,_),(2,_),(6,_),(7,_),(8,_),(12,_),(19,_),(20,_)] ⟨rfl,rfl,rfl,rfl,rfl,rfl,rfl,rfl,rfl,trivial⟩ (fun i : Nat=>i <= s.looks.length) (fun i=>[(9,natA (ky s p left n i)),(21,natA i)]) (fun _=>[.grow 3 R.isEmpty (R.map natA)]) (fun i=>s.looks.length - i) 0 (Nat.zero_le _) rfl ⟨rfl,rfl,trivial⟩ ?_
  intro i hi
  conv=>whnf
  by_cases hlt2 : i < s.looks.length
  ·have hll:=ok.kl _ (zk (d:=default) hlt2)
   have hlk : ko s i p = (s.looks.getD i default).2.getD p default:=rfl
   have b1:=zcp s p left n i
   have b2 : 2 ^ i <= 2 ^ 4:=Nat.pow_le_pow_right (by omega) (by omega)
   have b3 : 2 ^ i &&& left <= left:=Nat.and_le_right
   have a1 : iand .i64 ((2 ^ i : Nat) : Int) (left : Int) = ((2 ^ i &&& left : Nat) : Int):=fI (by omega) (by omega)
   have a2 : ior .i64 (ky s p left n i : Int) ((2 ^ i &&& left : Nat) : Int) = ((ky s p left n i |||(2 ^ i &&& left) : Nat) : Int):=ior_nat (by omega) (by omega)
   repeat' first|((with_reducible first|refine XBr.y fun h=>?_|refine XBr.n fun h=>?_|refine XBr.dec (fun h=>?_) fun h=>?_|refine XBr.y1 fun h=>?_|refine XBr.n1 fun h=>?_|refine XBr.beq (fun h=>?_) fun h=>?_|refine XInt.a ?_) <;> conv=>whnf)|((first|refine zh.a ?_|refine XIx.a ?_|refine XInt.shl (by omega) ?_);conv=>whnf)|fail
   ·exact zj.go (i + 1) (by omega) (by omega) rfl ⟨rfl,rfl,rfl,rfl,rfl,rfl,rfl,rfl,rfl,(by show some (AV.int .i64 (ior .i64 _ (iand .i64 _ _))) = _;rw [a1,a2,partI_hit (by assumption)];rfl),rfl,trivial⟩
   ·exact zj.go (i + 1) (by omega) (by omega) rfl ⟨rfl,rfl,rfl,rfl,rfl,rfl,rfl,rfl,rfl,(by show some (natA (ky s p left n i)) = _;rw [zdr (by assumption)]),rfl,trivial⟩
  obtain rfl : i = s.looks.length:=by omega
  have hpN : ky s p left n s.looks.length = partN s p left n:=rfl
  rw [hpN]
  generalize partN s p left n = v at hnx
  repeat' first|((with_reducible first|refine XBr.y fun h=>?_|refine XBr.n fun h=>?_|refine XBr.dec (fun h=>?_) fun h=>?_|refine XBr.y2 fun h=>?_|refine XBr.n2 fun h=>?_|refine XBr.bne (fun h=>?_) fun h=>?_|refine XInt.a ?_) <;> conv=>whnf)|(refine zh.a ?_;conv=>whnf)|fail
  ·have hx : zJ s p left (n + 1) = R ++ [v]:=by rw [hnx,if_neg (by omega)]
   refine zl.go (n + 1) [] (by omega) (by omega) ?_ ⟨rfl,rfl,rfl,rfl,(by show some (AV.gr 0 (R.length + 1)) = _;rw [hx,List.length_append];rfl),rfl,trivial⟩
   show [Blk.grow _ (zJ s p left (n + 1)).isEmpty ((zJ s p left (n + 1)).map natA)] ++ [] = _
   rw [hx,zy,List.map_append];rfl
  ·have hx : zJ s p left (n + 1) = R:=by rw [hnx,if_pos (by omega),List.append_nil]
   refine zl.go (n + 1) [] (by omega) (by omega) ?_ ⟨rfl,rfl,rfl,rfl,(by rw [hx];rfl),rfl,trivial⟩
   show [Blk.grow _ (zJ s p left (n + 1)).isEmpty ((zJ s p left (n + 1)).map natA)] ++ [] = _
   rw [hx];rfl
 obtain rfl : n = 4:=by omega
 rw [<- hend rfl]
 repeat' ((with_reducible first|refine XBr.y fun h=>?_|refine XBr.n fun h=>?_|refine XBr.dec (fun h=>?_) fun h=>?_) <;> conv=>whnf)
 exact ⟨Froz.grow rfl hRl (nsL _)⟩
end GA
end
