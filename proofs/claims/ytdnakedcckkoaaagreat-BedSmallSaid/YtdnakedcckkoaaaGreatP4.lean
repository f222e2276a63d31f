/- Part 4 of a proof: Abs36, Abs37, Abs38, Abs39, Abs40, Abs42, Abs43, Abs45, Abs47, Abs48, Abs49, K1, D28, B7, FB, D1, D2, D3. -/
import Derived.Test.YtdnakedcckkoaaaGreatP3
import Derived.Test.YtdnakedcckkoaaaGreatRows
set_option linter.unusedVariables false
set_option linter.unusedSimpArgs false
set_option maxRecDepth 8000
section
namespace GA
open Go Go.RowKit
structure zw (A : Prop) : Prop where
 o : A
def hsU (H : List Blk) : List Bool -> List Blk := fun _ => H
section
variable {P : Program} {T : Tab} {N : Nat} {ρ : Option Nat} {D : List Nat} {σ : St} {H : List Blk} {Q : Post}
theorem SubX.app : ∀ {K L : List (Nat × AV)} {σ : St}, SubX K σ -> SubX L σ -> SubX (K ++ L) σ
 | [], _, _, _, h => h
 | (_, _) :: _, _, _, h, h2 => ⟨h.1, SubX.app h.2 h2⟩
theorem Walk.drawN {ops : List Oper} {id : Nat} (ok : zE P T) (hm : P.follows .mixedOrders = true) (own eff : List Nat) (HS : List Bool -> List Blk) (R : List AV) (hs : Region.lexB .any ops.toArray = true) (hH : HS (eff.map fun _ => false) = H)
  (hA : ChkA P T N own ops eff HS 0 ops R σ) (hB : ChkB P T N own ops eff HS R σ (allF eff.length)) (hk : zw (Q .normal D (fe N ops R σ) (HS (eff.map fun j => Nat.blt j ops.length)))) : Walk P N ρ (.region id ops.toArray true) Q D σ H :=
 Walk.drawX ok hm own eff HS R hs hH hA hB hk.o
theorem Walk.loopK {c : Code} {G : Type} (ok : zE P T) (own : List Nat) (K : List (Nat × AV)) (hK : SubX K σ) (I : G -> Prop) (L : G -> List (Nat × AV)) (hp : G -> List Blk) (μ : G -> Nat) (g0 : G) (h0 : I g0) (hH : hp g0 = H) (hs : SubX (L g0) σ)
  (round : ∀ g, I g -> XRun P T N ρ own c (yZ (zk I (fun g => K ++ L g) hp μ g D) Q) D (stX (K ++ L g)) (hp g)) : Walk P N ρ (.loop c) Q D σ H :=
 Walk.loop ok own I (fun g => K ++ L g) hp μ g0 h0 hH (hK.app hs) round
theorem Walk.loopGK {c : Code} {G : Type} (ok : zE P T) (own : List Nat) (K : List (Nat × AV)) (hK : SubX K σ) (I : G -> Prop) (L : G -> List (Nat × AV)) (hp : G -> List Blk) (μ : G -> Nat) (g0 : G) (h0 : I g0) (hH : hp g0 = H) (hs : SubX (L g0) σ)
  (hlow : ∀ g, I g -> (∀ x ∈ hp g, x.low (hp g).length = true) /\ ∀ p ∈ K ++ L g, p.2.low (hp g).length = true) (hlen : ∀ g, I g -> (hp g0).length <= (hp g).length)
  (round : ∀ g, I g -> XRun P T N ρ own c (yZ (zp I (fun g => K ++ L g) hp μ g) Q) [] (stX (K ++ L g)) (hp g)) : Walk P N ρ (.loop c) Q [] σ H :=
 Walk.loopG ok own I (fun g => K ++ L g) hp μ g0 h0 hH (hK.app hs) hlow hlen round
theorem Walk.loopFK {c : Code} {G : Type} (ok : zE P T) (own : List Nat) (K : List (Nat × AV)) (hK : SubX K σ) (I : G -> Prop) (L : G -> List (Nat × AV)) (hp : G -> List Blk) (μ : G -> Nat) (g0 : G) (h0 : I g0) (hH : hp g0 = H) (hs : SubX (L g0) σ)
  (hlow : ∀ g, I g -> ∀ x ∈ hp g, x.low (hp g).length = true) (hlen : ∀ g, I g -> (hp g0).length <= (hp g).length)
  (round : ∀ g, I g -> XRun P T N ρ own c (yZ (qo P I (fun g => K ++ L g) hp μ g) Q) [] (stX (K ++ L g)) (hp g)) : Walk P N ρ (.loop c) Q [] σ H :=
 Walk.loopF ok own I (fun g => K ++ L g) hp μ g0 h0 hH (hK.app hs) hlow hlen round
theorem yk.move {G : Type} {I : G -> Prop} {L : G -> List (Nat × AV)} {hp : G -> List Blk} {μ : G -> Nat} {base : Nat} {g : G} (g' : G) (A : List Blk) (x y : Blk) (u : Nat) (L0 : List (Nat × AV)) (h1 : I g') (h2 : μ g' < μ g) (h3 : hp g' = A ++ [y]) (h4 : H = A ++ [x, y])
  (h5 : L g' = (u, .ptr A.length 0) :: L0) (h6 : SubX L0 σ) (h7 : σ u = some (.ptr (A.length + 1) 0)) (hb : base <= A.length) (lA : ∀ z ∈ A, z.low A.length = true) (ly : y.low A.length = true) (lL : ∀ p ∈ L0, p.2.low A.length = true) : yk I L hp μ base g [] σ H := by
 have hf : ∀ i, i < A.length -> (fun i => if i = A.length then A.length + 1 else i) i = i := fun i hi => by simp only; rw [if_neg (by omega)]
 refine ⟨g', fun i => if i = A.length then A.length + 1 else i, h1, h2, ⟨List.nodup_nil, fun i hi => by simp at hi, fun i _ hi => by simp at hi⟩, ?_⟩
 rw [h3, h4]
 refine ⟨fun i j hi hj e => ?_, fun i hi => hf i (by omega), by simp; omega, fun i x1 e => ?_, fun i x1 hi e => ?_, fun z hz => ?_, fun t r e => ?_⟩
 ·split at e <;> split at e <;> simp only [List.length_append, List.length_cons, List.length_nil] at hi hj <;> omega
 ·rcases Nat.lt_or_ge i A.length with hi | hi
  ·rw [List.getElem?_append_left hi] at e
   rw [if_neg (show ¬ i = A.length by omega), List.getElem?_append_left hi, e, Blk.ren_low hf (lA _ (List.mem_of_getElem? e))]
  ·have hi2 : i = A.length := by
    have := (List.getElem?_eq_some_iff.1 e).1
    simp only [List.length_append, List.length_cons, List.length_nil] at this; omega
   subst hi2
   rw [List.getElem?_append_right (Nat.le_refl _), Nat.sub_self] at e
   cases e
   simp only [if_true]
   rw [List.getElem?_append_right (by omega), show A.length + 1 - A.length = 1 by omega, Blk.ren_low hf ly]; rfl
 ·have hi2 : i < A.length := by omega
  rw [List.getElem?_append_left hi2] at e
  exact Blk.ren_low hf (lA _ (List.mem_of_getElem? e))
 ·rw [List.mem_append, List.mem_singleton] at hz
  rcases hz with hz | rfl
  ·exact GA.low_mono (by simp) (lA z hz)
  ·exact GA.low_mono (by simp) ly
 ·rw [h5] at e
  have hlen : A.length <= (A ++ [y]).length := by simp
  rcases List.mem_cons.1 (stX_mem _ _ _ e) with e1 | e1
  ·cases e1
   refine ⟨?_, by simp [AV.low]⟩
   rw [h7]; simp only [AV.ren, if_true]
  ·have h8 := lL _ e1
   refine ⟨?_, AV.low_mono hlen h8⟩
   rw [AV.ren_low hf h8]
   simp only [stX, yV, upd] at e
   split at e
   ·rename_i h9
    cases e
    simp only [AV.low, decide_eq_true_eq] at h8; omega
   ·exact yC h6 t r e
theorem zaM {i : Nat} {rs : List AV} {k k' : AV -> List Blk -> Prop} (x : zat P i rs H k) (hk : ∀ r H', k r H' -> k' r H') : zat P i rs H k' :=
 ⟨x.1, fun E h β w b vs s r e => let ⟨f, tmps, assign, body, h1, h2⟩ := x.2 E h β w b vs s r e; ⟨f, tmps, assign, body, h1, h2.mono fun _ _ => Ends.mono hk⟩⟩
def wh (P : Program) (i : Nat) (K : List Blk -> Prop) : List Nat -> List Blk -> Prop
 | [], H => K H
 | c :: cs, H => jH P i [.int .i64 (c : Int)] H fun r H' => (r = .bool true /\ wh P i K cs H') \/ (r = .bool false /\ K H')
theorem wh.run {i : Nat} {K : List Blk -> Prop} {S : Type} (upd : S -> List Blk) (step : S -> Nat -> S) (I : S -> List Nat -> Prop)
  (x : ∀ s c cs, I s (c :: cs) -> jH P i [.int .i64 (c : Int)] (upd s) (fun r H' => r = .bool true /\ H' = upd (step s c)) /\ I (step s c) cs) :
  ∀ (cs : List Nat) (s : S), I s cs -> K (upd (cs.foldl step s)) -> wh P i K cs (upd s)
 | [], s, _, hk => hk
 | c :: cs, s, hI, hk => by
   obtain ⟨h1, h2⟩ := x s c cs hI
   refine ⟨zaM h1.o ?_⟩
   rintro r H' ⟨rfl, rfl⟩
   exact .inl ⟨rfl, wh.run upd step I x cs _ h2 hk⟩
theorem wh.go {i : Nat} {K : List Blk -> Prop} {S : Type} {cs : List Nat} (upd : S -> List Blk) (step : S -> Nat -> S) (I : S -> List Nat -> Prop) (s0 : S) (hH : upd s0 = H)
  (x : ∀ s c cs, I s (c :: cs) -> jH P i [.int .i64 (c : Int)] (upd s) (fun r H' => r = .bool true /\ H' = upd (step s c)) /\ I (step s c) cs) (hI : I s0 cs) (hk : K (upd (cs.foldl step s0))) : wh P i K cs H := by
 have := wh.run upd step I x cs s0 hI hk
 rwa [hH] at this
end
def arrF {α : Type} (f : α -> AV) (r : List α) : AV := .agg (r.map f)
theorem zN.rowsF {α : Type} {f : α -> AV} {els : List AV} {n e' o w : Nat} {k : List AV -> Prop} (rows : List (List α)) (e i : Nat) (v : α) (d : List α) (he : e = e') (hE : els = rows.map (arrF f)) (h1 : n = rows.length) (h2 : e < n) (hw : (rows.getD e d).length = w) (ho : o = i) (hi : i < w)
  (h : k ((rows.set e ((rows.getD e d).set i v)).map (arrF f))) : zN els n e' o w [f v] k := by
 subst he; subst hE; subst ho
 have hg : (rows.map (arrF f)).getD e default = arrF f (rows.getD e d) := by
  rw [List.getD_eq_getElem?_getD, List.getElem?_map, List.getD_eq_getElem?_getD, List.getElem?_eq_getElem (by omega)]; rfl
 refine ⟨by rw [List.length_map]; exact h1, h2, by simp; omega, by rw [hg]; rfl, ?_⟩
 rw [hg]
 show k ((rows.map (arrF f)).set e (.agg (splice ((rows.getD e d).map f) o [f v])))
 have : splice ((rows.getD e d).map f) o [f v] = ((rows.getD e d).set o v).map f := by
  rw [List.map_set]
  have hl : o < ((rows.getD e d).map f).length := by rw [List.length_map]; omega
  rw [List.set_eq_take_append_cons_drop, if_pos hl]
  simp [splice]
 rw [this]
 rw [List.map_set] at h
 exact h
section
variable {α : Type}
def vecF (W : Nat) (F : Nat -> α) : List α := if h : W = 0 then [] else vecF (W - 1) F ++ [F (W - 1)]
 termination_by W
theorem ya (F : Nat -> α) : ∀ W, vecF W F = (List.range W).map F
 | 0 => by rw [vecF]; rfl
 | n + 1 => by rw [vecF, dif_neg (by omega), Nat.add_sub_cancel, ya F n, List.range_succ, List.map_append]; rfl
def updV (F : Nat -> α) (j : Nat) (v : α) : Nat -> α := fun j' => if j' = j then v else F j'
theorem zj (W : Nat) (F : Nat -> α) : (vecF W F).length = W := by rw [ya]; simp
theorem zO (W : Nat) (F : Nat -> α) (i : Nat) : (vecF W F)[i]? = if i < W then some (F i) else none := by
 rw [ya, List.getElem?_map]
 by_cases h : i < W
 ·rw [List.getElem?_range h, if_pos h]; rfl
 ·rw [List.getElem?_eq_none (by simpa using h), if_neg h]; rfl
theorem yq {W : Nat} {F : Nat -> α} {i : Nat} (d : α) (h : i < W) : (vecF W F).getD i d = F i := by rw [List.getD_eq_getElem?_getD, zO, if_pos h]; rfl
theorem zy {W : Nat} {F G : Nat -> α} (h : ∀ i, i < W -> F i = G i) : vecF W F = vecF W G := by
 apply List.ext_getElem?; intro i
 rw [zO, zO]
 by_cases h1 : i < W
 ·rw [if_pos h1, if_pos h1, h i h1]
 ·rw [if_neg h1, if_neg h1]
theorem yF (W : Nat) (F : Nat -> α) (j : Nat) (v : α) : (vecF W F).set j v = vecF W (updV F j v) := by
 apply List.ext_getElem?; intro i
 rw [List.getElem?_set, zO, zO, zj]
 unfold updV
 by_cases h1 : j = i
 ·subst h1; rw [if_pos rfl]
  by_cases h2 : j < W
  ·rw [if_pos h2, if_pos h2, if_pos rfl]
  ·rw [if_neg h2, if_neg h2]
 ·rw [if_neg h1]
  by_cases h2 : i < W
  ·rw [if_pos h2, if_pos h2, if_neg (fun e => h1 e.symm)]
  ·rw [if_neg h2, if_neg h2]
theorem yQ {W : Nat} {F : Nat -> α} {x : α} : x ∈ vecF W F ↔ ∃ i, i < W /\ F i = x := by rw [ya]; simp
theorem zT (W : Nat) (v : α) : vecF W (fun _ => v) = List.replicate W v := by
 apply List.ext_getElem?; intro i
 rw [zO, List.getElem?_replicate]
def matF (N W : Nat) (F : Nat -> Nat -> α) : List (List α) := vecF N fun i => vecF W (F i)
def updM (F : Nat -> Nat -> α) (i j : Nat) (v : α) : Nat -> Nat -> α := fun i' j' => if i' = i /\ j' = j then v else F i' j'
theorem fX {N W : Nat} {F G : Nat -> Nat -> α} (h : ∀ i, i < N -> ∀ j, j < W -> F i j = G i j) : matF N W F = matF N W G := zy fun i hi => zy (h i hi)
theorem matF_set (N W : Nat) (F : Nat -> Nat -> α) (i j : Nat) (v : α) : (matF N W F).set i ((vecF W (F i)).set j v) = matF N W (updM F i j v) := by
 unfold matF
 rw [yF]
 refine zy fun i' _ => ?_
 unfold updV updM
 by_cases h : i' = i
 ·subst h; rw [if_pos rfl, yF]
  refine zy fun j' _ => ?_
  unfold updV
  simp
 ·rw [if_neg h]
  refine zy fun j' _ => ?_
  rw [if_neg (fun e => h e.1)]
variable {f : α -> AV}
theorem zN.mat {els : List AV} {n e' o w : Nat} {k : List AV -> Prop} {N W : Nat} {F : Nat -> Nat -> α} (e i : Nat) (v : α) (he : e = e') (hE : els = (matF N W F).map (arrF f)) (h1 : n = N) (h2 : e < N) (ho : o = i) (hi : i < W) (hw : w = W)
  (h : k ((matF N W (updM F e i v)).map (arrF f))) : zN els n e' o w [f v] k := by
 have hg : (matF N W F).getD e [] = vecF W (F e) := yq _ h2
 refine zN.rowsF (matF N W F) e i v [] he hE (by rw [h1]; exact (zj _ _).symm) (by omega) (by rw [hg, zj, hw]) ho (by omega) ?_
 rw [hg, matF_set]; exact h
theorem XGet.mat {n e : Nat} {k : List AV -> Prop} {N W : Nat} {F : Nat -> Nat -> α} (h1 : n = N) (h2 : e < N) (h : k ((vecF W (F e)).map f)) : XGet ((matF N W F).map (arrF f)) n e k := by
 refine ⟨by rw [List.length_map]; exact h1.trans (zj _ _).symm, by omega, ?_⟩
 have : ((matF N W F).map (arrF f)).getD e default = arrF f (vecF W (F e)) := by
  rw [List.getD_eq_getElem?_getD, List.getElem?_map, matF, zO, if_pos h2]; rfl
 rw [this]; exact h
theorem XIx.mat {n : Int} {w : Nat} {k : AV -> Prop} {N W : Nat} {F : Nat -> Nat -> α} (i : Nat) (hn : n = i) (h2 : i < N) (hw : w = W) (h : k (.pim ((vecF W (F i)).map f))) : XIx ((matF N W F).map (arrF f)) n w k := by
 subst hn
 have : nth ((matF N W F).map (arrF f)) (i : Int) = arrF f (vecF W (F i)) := by
  unfold nth
  rw [Int.toNat_natCast, List.getD_eq_getElem?_getD, List.getElem?_map, matF, zO, if_pos h2]; rfl
 refine ⟨by omega, by rw [List.length_map, matF, zj]; omega, by rw [this]; show ((vecF W (F i)).map f).length = w; rw [List.length_map, zj, hw], ?_⟩
 rw [this]; exact h
theorem zb4 {W : Nat} {F : Nat -> α} {j : Nat} (h : j < W) : ((vecF W F).map f)[j]? = some (f (F j)) := by rw [List.getElem?_map, zO, if_pos h]; rfl
theorem XArr.vec {n : Int} {m : Nat} {k : AV -> Prop} {W : Nat} {F : Nat -> α} (j : Nat) (hn : n = j) (h1 : j < m) (h2 : j < W) (h : k (.pim (f (F j) :: ((vecF W F).map f).drop (j * 1 + 1)))) : XArr (.pim ((vecF W F).map f)) n m 1 k := by
 subst hn
 exact XArr.at _ (by omega) (by omega) (by rw [Int.toNat_natCast, Nat.mul_one]; exact zb4 h2) h
theorem kZ {o : Nat} {k : List AV -> Prop} {W : Nat} {F : Nat -> α} (j : Nat) (ho : o = j) (hj : j < W) (h : k (f (F j) :: ((vecF W F).map f).drop (j + 1))) : xdrop o ((vecF W F).map f) k := by
 subst ho; exact zcP _ (zb4 hj) h
theorem ka {n W : Nat} {F : Nat -> α} {k : List AV -> Prop} (hn : n = W) (h : k ((vecF W F).map f)) : xtk n ((vecF W F).map f) k := by
 have : ∀ (l : List AV) (k : List AV -> Prop), k l -> xtk l.length l k := by
  intro l; induction l with
  | nil => intro k h; exact h
  | cons x l ih => intro k h; exact ih (fun l => k (x :: l)) h
 have e : n = ((vecF W F).map f).length := by rw [List.length_map, zj, hn]
 rw [e]; exact this _ _ h
theorem zbG {n W : Nat} {F : Nat -> α} {A : Prop} (hn : n = W) (h : A) : xn n ((vecF W F).map f) A := by
 have : ∀ (l : List AV), xn l.length l A := by
  intro l; induction l with
  | nil => exact h
  | cons x l ih => exact ih
 have e : n = ((vecF W F).map f).length := by rw [List.length_map, zj, hn]
 rw [e]; exact this _
theorem xspl_vec {o : Nat} {k : List AV -> Prop} {W : Nat} {F : Nat -> α} (v : α) (j : Nat) (ho : o = j) (hj : j < W) (h : k ((vecF W (updV F j v)).map f)) : xspl ((vecF W F).map f) o [f v] k := by
 subst ho
 have gen : ∀ (c : List AV) (o : Nat) (v : AV) (k : List AV -> Prop), o < c.length -> k (c.set o v) -> xspl c o [v] k := by
  intro c; induction c with
  | nil => intro o v k h _; simp at h
  | cons x c ih =>
    intro o v k h hk
    cases o with
    | zero =>
      show xspl c 0 [] fun l => k (v :: l)
      cases c <;> exact hk
    | succ o => exact ih o v (fun l => k (x :: l)) (by simpa using h) hk
 refine gen _ _ _ _ (by rw [List.length_map, zj]; exact hj) ?_
 rw [<- List.map_set, yF]; exact h
theorem zbp {k : List AV -> Prop} {W : Nat} {F G : Nat -> α} (h : k ((vecF W G).map f)) : xspl ((vecF W F).map f) 0 ((vecF W G).map f) k := by
 have gen : ∀ (c d : List AV) (k : List AV -> Prop), c.length = d.length -> k d -> xspl c 0 d k := by
  intro c; induction c with
  | nil => intro d k h hk; cases d with | nil => exact hk | cons _ _ => simp at h
  | cons x c ih =>
    intro d k h hk
    cases d with
    | nil => simp at h
    | cons y d => exact ih d (fun l => k (y :: l)) (by simpa using h) hk
 exact gen _ _ _ (by rw [List.length_map, List.length_map, zj, zj]) h
theorem g8 {n W : Nat} {F : Nat -> α} (hf : ∀ x, (f x).low n = true) : lowL n ((vecF W F).map f) = true := y6 hf _
theorem jh {n N W : Nat} {F : Nat -> Nat -> α} (hf : ∀ x, (f x).low n = true) : lowL n ((matF N W F).map (arrF f)) = true := y6 (f := arrF f) (fun r => by show lowL n (r.map f) = true; exact y6 hf r) _
end
theorem XGet.mapF {α : Type} {f : α -> AV} {xs : List α} {n e : Nat} {k : List AV -> Prop} (d : α) (h1 : n = xs.length) (h2 : e < n) (h : k (f (xs.getD e d)).cells) : XGet (xs.map f) n e k := by
 refine ⟨by rw [List.length_map]; exact h1, h2, ?_⟩
 have : (xs.map f).getD e default = f (xs.getD e d) := by
  rw [List.getD_eq_getElem?_getD, List.getElem?_map, List.getD_eq_getElem?_getD, List.getElem?_eq_getElem (by omega)]; rfl
 rw [this]; exact h
end GA
end
section
namespace GA
open Go Go.RowKit
section
variable {P : Program} {N : Nat} {ρ : Option Nat} {H : List Blk} {σ : St} {D : List Nat}
theorem yi : ∀ {els : List AV}, (∀ x ∈ els, x.one = true) -> flat els = els
 | [], _ => rfl
 | x :: l, h => by
   have h1 := h x List.mem_cons_self
   have h2 := yi (els := l) fun y hy => h y (List.mem_cons_of_mem _ hy)
   have h3 : x.cells = [x] := by cases x <;> first | rfl | cases h1
   show x.cells ++ flat l = _
   rw [h3, h2]; rfl
theorem zbb {x : AV} (h : x.one = true) : x.cells = [x] := by cases x <;> first | rfl | cases h
theorem Walk.freezeRow {c : Code} {Q : Post} (j e i n : Nat) {t t' : TypeId} {nl nl' : Bool} {els ys : List AV} (hj : lget H j = some (.grow t nl els)) (hone : ∀ x ∈ els, x.one = true) (he : els[e]? = some (.gr i n)) (hi : lget H i = some (.grow t' nl' ys)) (hij : i ≠ j) (hn : ys.length = n)
  (x : Walk P N ρ c Q D σ ((H.set i .dead).set j (.grow t nl (els.set e (.sl nl' ys))))) : Walk P N ρ c Q D σ H := by
 constructor
 intro E h β a w s
 rw [zu] at hi hj
 obtain ⟨h', s1, X1, hfz⟩ := s.sr.freeze hi
 have hj1 : (H.set i .dead)[j]? = some (.grow t nl els) := by rw [List.getElem?_set_ne hij]; exact hj
 have hlt := (List.getElem?_eq_some_iff.1 he).1
 have hone' : ∀ x ∈ els.set e (.sl nl' ys), x.one = true := fun x hx => by
  rcases List.mem_or_eq_of_mem_set hx with hx | rfl
  ·exact hone x hx
  ·rfl
 obtain ⟨s2, X2⟩ := s1.modify (β' := β) (w' := w) (x' := .grow t nl (els.set e (.sl nl' ys))) hj1 (fun _ _ => rfl) (.inr ⟨_, _, rfl, by rw [List.length_set]; exact Nat.le_refl _, fun _ => rfl⟩) s1.env (fun _ _ _ => rfl) (fun b e => .inl (by unfold blkOf; rw [hj1]; exact e)) (fun X => by
  rcases s.sr.blk j _ hj with ⟨_, h0, _⟩ | ⟨_, h0, _⟩ | ⟨h0, b, cap, c, h1, h2, h3, h4, h5, h6, h7, h8, h9, us, h10, h11⟩
  ·subst h0; simp at hlt
  ·subst h0; simp at hlt
  ·refine .inr (.inr ⟨h0, b, cap, c, by rw [List.length_set]; exact h1, h2, h3, by rw [List.length_set]; exact h4, h5, h6, h7, fun y hy => ?_, fun y hy => ?_, us, fun k y ek => ?_, fun k y ek => ?_⟩)
   ·rw [zbb (hone' y hy)]
    have := h8 _ (List.mem_of_getElem? he)
    exact this
   ·rw [yi hone'] at hy; exact hone' y hy
   ·rw [yi hone'] at ek
    rw [yi hone] at h10
    by_cases hke : e = k
    ·subst hke; exact h10 e _ he
    ·rw [List.getElem?_set_ne hke] at ek; exact h10 k y ek
   ·rw [yi hone'] at ek
    rw [yi hone] at h11
    by_cases hke : e = k
    ·subst hke
     rw [List.getElem?_set_self hlt] at ek; cases ek
     exact fN s.sr hi hn (h11 e _ he) (X1.trans X) hfz
    ·rw [List.getElem?_set_ne hke] at ek; exact (X1.trans X).rep (h11 k y ek))
 exact wpIn_mono (x.o E h' _ a w ⟨s2, fun u r e => let ⟨v, h1, h2⟩ := s.fits u r e; ⟨v, h1, (X1.trans X2).rep h2⟩, s.size, s.df.ext (X1.trans X2)⟩) fun _ _ _ => Conc.ext (X1.trans X2)
theorem Walk.nilRowIn {c : Code} {Q : Post} (j e : Nat) (te : TypeId) {t : TypeId} {nl : Bool} {els : List AV} (hj : lget H j = some (.grow t nl els)) (hone : ∀ x ∈ els, x.one = true) (he : els[e]? = some (.sl true []))
  (x : Walk P N ρ c Q D σ (H.set j (.grow t nl (els.set e (.gr H.length 0))) ++ [.grow te true []])) : Walk P N ρ c Q D σ H := by
 constructor
 intro E h β a w s
 rw [zu] at hj
 have hjl := (List.getElem?_eq_some_iff.1 hj).1
 have hlt := (List.getElem?_eq_some_iff.1 he).1
 obtain ⟨s1, X1⟩ := s.sr.push (w' := w) s.sr.env (fun _ _ => rfl) (.slice none 0 0) (.grow te true []) (by intro b hb; simp [anchor] at hb) (fun _ => .inl ⟨rfl, rfl, by simp [upb]⟩)
 have hj1 : (H ++ [Blk.grow te true []])[j]? = some (.grow t nl els) := by rw [List.getElem?_append_left hjl]; exact hj
 have hone' : ∀ x ∈ els.set e (.gr H.length 0), x.one = true := fun x hx => by
  rcases List.mem_or_eq_of_mem_set hx with hx | rfl
  ·exact hone x hx
  ·rfl
 obtain ⟨s2, X2⟩ := s1.modify (β' := upb β H.length (.slice none 0 0)) (w' := w) (x' := .grow t nl (els.set e (.gr H.length 0))) hj1 (fun _ _ => rfl) (.inr ⟨_, _, rfl, by rw [List.length_set]; exact Nat.le_refl _, fun _ => rfl⟩) s1.env (fun _ _ _ => rfl) (fun b e => .inl (by unfold blkOf; rw [hj1]; exact e)) (fun X => by
  rcases s1.blk j _ hj1 with ⟨_, h0, _⟩ | ⟨_, h0, _⟩ | ⟨h0, b, cap, c, h1, h2, h3, h4, h5, h6, h7, h8, h9, us, h10, h11⟩
  ·subst h0; simp at hlt
  ·subst h0; simp at hlt
  ·refine .inr (.inr ⟨h0, b, cap, c, by rw [List.length_set]; exact h1, h2, h3, by rw [List.length_set]; exact h4, h5, h6, h7, fun y hy => ?_, fun y hy => ?_, us, fun k y ek => ?_, fun k y ek => ?_⟩)
   ·rw [zbb (hone' y hy)]
    have := h8 _ (List.mem_of_getElem? he)
    exact this
   ·rw [yi hone'] at hy; exact hone' y hy
   ·rw [yi hone'] at ek
    rw [yi hone] at h10
    by_cases hke : e = k
    ·subst hke; exact h10 e _ he
    ·rw [List.getElem?_set_ne hke] at ek; exact h10 k y ek
   ·rw [yi hone'] at ek
    rw [yi hone] at h11
    by_cases hke : e = k
    ·subst hke
     rw [List.getElem?_set_self hlt] at ek; cases ek
     have h12 := h11 e _ he
     cases hu : us e <;> rw [hu] at h12 <;> cases h12
     refine .gr rfl ⟨_, by rw [List.getElem?_set_ne (by omega), List.getElem?_append_right (Nat.le_refl _), Nat.sub_self]; rfl, rfl⟩ fun t' nl els e => ?_
     rw [List.getElem?_set_ne (by omega), List.getElem?_append_right (Nat.le_refl _), Nat.sub_self] at e
     simp at e; obtain ⟨_, _, rfl⟩ := e
     exact ⟨Nat.le_refl _, fun _ => by simp [upb]⟩
    ·rw [List.getElem?_set_ne hke] at ek; exact X.rep (h11 k y ek))
 rw [List.set_append_left _ _ hjl] at s2 X2
 exact wpIn_mono (x.o E h _ a w ⟨s2, fun u r e => let ⟨v, h1, h2⟩ := s.fits u r e; ⟨v, h1, (X1.trans X2).rep h2⟩, s.size, s.df.ext (X1.trans X2)⟩) fun _ _ _ => Conc.ext (X1.trans X2)
theorem Walk.run {T : Tab} {c : Code} {Q : Post} (ok : zE P T) (own : List Nat) (x : XRun P T N ρ own c Q D σ H) : Walk P N ρ c Q D σ H := ⟨XRun.sound ok x⟩
theorem Walk.loopKW {c : Code} {Q : Post} {G : Type} (K : List (Nat × AV)) (hK : SubX K σ) (I : G -> Prop) (L : G -> List (Nat × AV)) (hp : G -> List Blk) (μ : G -> Nat) (g0 : G) (h0 : I g0) (hH : hp g0 = H) (hs : SubX (L g0) σ)
  (round : ∀ g, I g -> Walk P N ρ c (yZ (zk I (fun g => K ++ L g) hp μ g D) Q) D (stX (K ++ L g)) (hp g)) : Walk P N ρ (.loop c) Q D σ H := by
 constructor
 refine AWp.loop (G := {g : G // I g}) (fun g => stX (K ++ L g.1)) (fun g => hp g.1) (fun g => μ g.1) ⟨g0, h0⟩ (yC (hK.app hs)) hH fun g => ?_
 refine (round g.1 g.2).o.mono fun e D' σ' H' q => ?_
 cases e with
 | normal => obtain ⟨h1, g', h2, h3, h4, h5⟩ := q; exact ⟨h1, ⟨g', h2⟩, h3, h4, yC h5⟩
 | _ => exact q
theorem XGet.set {els : List AV} {n e m : Nat} {x : AV} {k : List AV -> Prop} (he : e = m) (hm : m < els.length) (hn : n = els.length) (h : k x.cells) : XGet (els.set m x) n e k := by
 subst he
 refine ⟨by rw [List.length_set]; exact hn, by omega, ?_⟩
 have : (els.set e x).getD e default = x := by rw [List.getD_eq_getElem?_getD, List.getElem?_set_self hm]; rfl
 rw [this]; exact h
theorem XPut.set {els : List AV} {n e m : Nat} {x v : AV} {k : List AV -> Prop} (he : e = m) (hm : m < els.length) (hn : n = els.length) (h : k (els.set m v)) : XPut (els.set m x) n e v k := by
 subst he
 exact ⟨by rw [List.length_set]; exact hn, by omega, by rw [List.set_set]; exact h⟩
end
end GA
end
section
namespace GA
open Go Go.RowKit
section
variable {P : Program} {N : Nat} {ρ : Option Nat} {H : List Blk} {σ : St} {D : List Nat} {Q : Post}
structure XFrz (u i n : Nat) (σ : St) (H : List Blk) (k : St -> List Blk -> Prop) : Prop where
 o : ∃ t nl els, σ u = some (.gr i n) /\ lget H i = some (.grow t nl els) /\ els.length = n /\ k (updX σ u (.sl nl els)) (H.set i .dead)
theorem XFrz.go {u i n : Nat} {k : St -> List Blk -> Prop} {t : TypeId} {nl : Bool} {els : List AV} (hu : σ u = some (.gr i n)) (hi : lget H i = some (.grow t nl els)) (hn : els.length = n) (x : k (updX σ u (.sl nl els)) (H.set i .dead)) : XFrz u i n σ H k := ⟨t, nl, els, hu, hi, hn, x⟩
def frzQ (u i n : Nat) (Q : Post) : Post
 | .exit id, D, σ, H => XFrz u i n σ H (Q (.exit id) D)
 | e, D, σ, H => Q e D σ H
theorem Walk.thenFreeze {c : Code} (u i n : Nat) (x : Walk P N ρ c (frzQ u i n Q) D σ H) : Walk P N ρ c Q D σ H := by
 constructor
 intro E h β a w s
 refine wpIn_mono (x.o E h β a w s) fun e a' w' hc => ?_
 obtain ⟨D', σ', H', h', β', q, X, s'⟩ := hc
 cases e with
 | exit id =>
   obtain ⟨t, nl, els, hu, hi, hn, q⟩ := q.o
   rw [zu] at hi
   obtain ⟨h'', s1, X1, hfz⟩ := s'.sr.freeze hi
   refine ⟨D', _, _, h'', β', q, X.trans X1, ⟨s1, fun t' r e => ?_, s'.size, s'.df.ext X1⟩⟩
   rw [yV] at e; unfold upd at e
   split at e
   ·rename_i hh; subst hh; cases e
    obtain ⟨v, h1, h2⟩ := s'.fits _ _ hu
    exact ⟨v, h1, fN s'.sr hi hn h2 X1 hfz⟩
   ·obtain ⟨v, h1, h2⟩ := s'.fits t' r e
    exact ⟨v, h1, X1.rep h2⟩
 | _ => exact ⟨D', σ', H', h', β', q, X, s'⟩
end
end GA
end
section
namespace GA
open Go Go.RowKit
section
variable {P : Program} {N : Nat} {ρ : Option Nat} {H : List Blk} {σ : St} {D : List Nat} {Q : Post} {E : Env} {h : Nat -> Option Obj} {β : Nat -> Value} {a : Act} {w : World}
theorem zcu (H1 l : List Blk) (L : List (Nat × AV)) (hlow : ∀ x ∈ H1, x.low H1.length = true) (hs : SubF P H1.length (H1 ++ l) L σ) (s : kj P E N h β D σ (H1 ++ l) a w) :
  ∃ h', Ext h β (H1 ++ l) h' β (H1 ++ l.map fun _ => .dead) /\ kj P E N h' β D (stX L) (H1 ++ l.map fun _ => .dead) a w := by
 have hd : ∀ (l : List Blk) (i : Nat) x, (l.map fun _ => Blk.dead)[i]? = some x -> x = .dead := fun l i x e => by
  rw [List.getElem?_map] at e
  cases hx : l[i]? with
  | none => rw [hx] at e; cases e
  | some y => rw [hx] at e; cases e; rfl
 have X : Ext h β (H1 ++ l) (yD H1.length h β (H1 ++ l) w) β (H1 ++ l.map fun _ => .dead) := by
  refine ⟨fun b o e => kS s.sr e, by simp, fun i x x' e e' => ?_⟩
  by_cases hi : i < H1.length
  ·rw [List.getElem?_append_left hi] at e e'
   rw [e] at e'; cases e'; exact Blk.to_refl _ _ _
  ·rw [List.getElem?_append_right (by omega)] at e'
   have := hd _ _ _ e'
   subst this
   cases x <;> first | rfl | trivial | exact .inl rfl
 have s1 := s.sr.allN hlow
 have X1 : Ext (yD H1.length h β (H1 ++ l) w) β H1 (yD H1.length h β (H1 ++ l) w) β (H1 ++ l.map fun _ => .dead) :=
  ⟨fun _ _ e => e, by simp, fun i x x' e e' => by rw [List.getElem?_append_left (List.getElem?_eq_some_iff.1 e).1, e] at e'; cases e'; exact Blk.to_refl _ _ _⟩
 have hbo : ∀ i b, blkOf β (H1 ++ l.map fun _ => .dead) i = some b -> blkOf β H1 i = some b := fun i b e => by
  have hlt := (yl e).1
  by_cases hi : i < H1.length
  ·rw [<- e]; exact (yy rfl (List.getElem?_append_left hi)).symm
  ·exfalso
   unfold blkOf at e
   cases hx : (H1 ++ l.map fun _ => Blk.dead)[i]? with
   | none => rw [hx] at e; cases e
   | some x =>
     rw [hx] at e
     rw [List.getElem?_append_right (by omega)] at hx
     have := hd _ _ _ hx
     subst this; cases e
 have s2 : SR P E (yD H1.length h β (H1 ++ l) w) β (H1 ++ l.map fun _ => .dead) w := by
  refine s1.grown X1 s1.env s1.imm (fun i x e => ?_) (fun i j b e1 e2 => s1.own i j b (hbo _ _ e1) (hbo _ _ e2)) (fun i b e => s1.fresh i b (hbo _ _ e)) s1.frm (fun i b e => s1.fro i b (hbo _ _ e))
  by_cases hi : i < H1.length
  ·rw [List.getElem?_append_left hi] at e; exact .inl ⟨e, rfl, fun _ _ => rfl⟩
  ·rw [List.getElem?_append_right (by omega)] at e
   have := hd _ _ _ e
   subst this; exact .inr trivial
 refine ⟨_, X, ⟨s2, fun t r e => ?_, s.size, s.df.ext X⟩⟩
 obtain ⟨r0, e1, e2⟩ := v8 hs t r e
 obtain ⟨v, h1, h2⟩ := s.fits t r0 e1
 rcases e2 with e2 | ⟨rfl, e2⟩
 ·exact ⟨v, h1, e2 E h β w s.sr v h2 _⟩
 ·refine ⟨v, h1, X1.rep (Rep.cut (l := l) ?_ e2)⟩
  have XA : Ext h β (H1 ++ l) (yD H1.length h β (H1 ++ l) w) β (H1 ++ l) := ⟨fun b o e => kS s.sr e, Nat.le_refl _, fun i x x' e e' => by rw [e] at e'; cases e'; exact Blk.to_refl _ _ _⟩
  exact XA.rep h2
structure w6 (P : Program) (σ : St) (H : List Blk) (k : St -> List Blk -> Prop) : Prop where
 o : ∃ (H1 l : List Blk) (L : List (Nat × AV)), H1 ++ l = H /\ (∀ x ∈ H1, x.low H1.length = true) /\ SubF P H1.length H L σ /\ k (stX L) (H1 ++ l.map fun _ => .dead)
theorem w6.go {k : St -> List Blk -> Prop} (H1 l : List Blk) (L : List (Nat × AV)) (hH : H1 ++ l = H) (hlow : ∀ x ∈ H1, x.low H1.length = true) (hs : SubF P H1.length H L σ) (x : k (stX L) (H1 ++ l.map fun _ => .dead)) : w6 P σ H k := ⟨H1, l, L, hH, hlow, hs, x⟩
def keepQ (P : Program) (Q : Post) : Post
 | .exit id, D, σ, H => w6 P σ H (Q (.exit id) D)
 | e, D, σ, H => Q e D σ H
theorem Walk.thenKeep {c : Code} (x : Walk P N ρ c (keepQ P Q) D σ H) : Walk P N ρ c Q D σ H := by
 constructor
 intro E h β a w s
 refine wpIn_mono (x.o E h β a w s) fun e a' w' hc => ?_
 obtain ⟨D', σ', H', h', β', q, X, s'⟩ := hc
 cases e with
 | exit id =>
   obtain ⟨H1, l, L, rfl, hlow, hs, q⟩ := q.o
   obtain ⟨h'', X1, s1⟩ := zcu H1 l L hlow hs s'
   exact ⟨D', _, _, h'', β', q, X.trans X1, s1⟩
 | _ => exact ⟨D', σ', H', h', β', q, X, s'⟩
theorem zdC {h : Nat -> Option Obj} {β : Nat -> Value} {H : List Blk} {w : World} : yD 0 h β H w = hall h β H w := by
 funext b
 by_cases hx : ∃ i, blkOf β H i = some b
 ·obtain ⟨i, hi⟩ := hx
  rw [zaU (Nat.zero_le i) hi]
  unfold hall; rw [if_pos ⟨i, hi⟩]
 ·unfold yD hall
  rw [if_neg hx, if_neg (fun ⟨i, _, h⟩ => hx ⟨i, h⟩)]
theorem Froz.n0 {r r' : AV} (f : Froz P H r r') : zav P 0 H r r' := fun E h β w s v hr H1 => by
 rw [zdC]
 exact (f E h β w s v hr).none
theorem qc.all {r r' : AV} (f : Froz P H r r') : qc P 0 H r r' := .inl f.n0
theorem Walk.truncCell {c : Code} (j o i m n : Nat) {cs : List AV} {te : TypeId} {nl : Bool} {els : List AV} (hj : lget H j = some (.cells cs)) (hc : lget cs o = some (.os i m 0 n)) (hi : lget H i = some (.grow te nl els)) (hm : els.length = m) (m0 : 0 < m)
  (x : Walk P N ρ c Q D σ ((H.set i .dead).set j (.cells (cs.set o (.gr H.length n))) ++ [.grow te false (els.take n)])) : Walk P N ρ c Q D σ H := by
 constructor
 intro E h β a w s
 rw [zu] at hj hc hi
 have hlt := (List.getElem?_eq_some_iff.1 hj).1
 have hlo := (List.getElem?_eq_some_iff.1 hc).1
 have hij : i ≠ j := fun e => by subst e; rw [hi] at hj; cases hj
 obtain ⟨b, c', t, h1, h2, h3, h4, us, h5, h6⟩ := s.sr.blk j _ hj
 obtain ⟨β1, s1, X1, hr⟩ := trunc_sr s.sr hi hm m0 (h6 o _ hc)
 have hlen : (H.set i .dead).length = H.length := List.length_set
 have hj1 : (H.set i .dead ++ [Blk.grow te false (els.take n)])[j]? = some (.cells cs) := by
  rw [List.getElem?_append_left (by omega), List.getElem?_set_ne hij]; exact hj
 have hβ : β1 j = β j := by
  rcases X1.to j _ _ hj hj1 with h | ⟨_, _, h⟩
  ·cases h
  ·exact h
 obtain ⟨s2, X2⟩ := s1.modify (β' := β1) (w' := w) (x' := .cells (cs.set o (.gr H.length n))) hj1 (fun _ _ => rfl) (.inr ⟨_, rfl, rfl⟩) s1.env (fun _ _ _ => rfl) (fun b e => .inl (by unfold blkOf; rw [hj1]; exact e)) (fun X => by
  refine ⟨b, c', t, hβ.trans h1, h2, by rw [List.length_set]; exact h3, fun y hy => ?_, us, fun i y e => ?_, fun i y e => ?_⟩
  ·rcases List.mem_or_eq_of_mem_set hy with hy | rfl
   ·exact h4 y hy
   ·rfl
  ·by_cases hio : o = i
   ·subst hio; exact h5 o _ hc
   ·rw [List.getElem?_set_ne hio] at e; exact h5 i y e
  ·by_cases hio : o = i
   ·subst hio
    rw [List.getElem?_set_self hlo] at e; cases e
    exact X.rep hr
   ·rw [List.getElem?_set_ne hio] at e; exact X.rep (X1.rep (h6 i y e)))
 rw [List.set_append_left _ _ (by omega)] at s2 X2
 exact wpIn_mono (x.o E h _ a w ⟨s2, fun u r e => let ⟨v, h1, h2⟩ := s.fits u r e; ⟨v, h1, (X1.trans X2).rep h2⟩, s.size, s.df.ext (X1.trans X2)⟩) fun _ _ _ => Conc.ext (X1.trans X2)
end
end GA
end
section
namespace GA
open Go Go.RowKit
section
variable {P : Program} {N : Nat} {ρ : Option Nat} {H : List Blk} {σ : St} {D : List Nat} {Q : Post}
theorem Comp.bodyW {T : Tab} {f : FuncId} {fn : Func} {c : Code} {rs : List AV} {res : List ResultVar} {r0 : AV} (ok : zE P T) (own : List Nat) (hf : P.funcs[f]? = some fn) (hb : fn.body = some c) (hn : (fn.name == "runtime.NumGoroutine") = false)
  (hN : fn.ntmps = N) (hr : fn.results = res.toArray) (hl : rs.length <= N) (hlo : lowL 0 rs = true) (x : Walk P N none c (XFn P T res r0) [] (argX rs) []) : Comp P f rs r0 := by
 refine ⟨hlo, ?_⟩
 obtain ⟨h1, h2⟩ := yb.inl0 (k := fun r H => XOut P H r r0) ok own hf hb hn hN hr hl (AWp.mono x.o (fun e D σ H q => by
  unfold XFn at q
  split at q
  ·exact q
  ·exact q
  ·exact q.elim))
 refine ⟨h1, fun E h β w vs s hrs => (h2 E h β w vs s hrs).mono ?_⟩
 rintro e w' ⟨r, H', h', β', v, rfl, hk, X, s', hrep⟩
 exact ⟨r0, [], hall h' β' H' w', β', v, rfl, ⟨rfl, rfl⟩, ⟨fun b o eb => w8 s' (X.imm b o eb), Nat.le_refl _, by simp⟩, s'.all, hk.o E h' β' w' s' v hrep⟩
end
end GA
end
section
namespace GA
open Go Go.RowKit
section
variable {P : Program} {E : Env} {h h' : Nat -> Option Obj} {β β' : Nat -> Value} {H : List Blk} {w w' : World}
theorem SR.besideAt (s : SR P E h β H w) {i : Nat} (hi : H[i]? = some .free) {b0 : Blk} {E' : Env} (hb : E'.b = E.b) (h1 : ∀ i b, blkOf β H i = some b -> E'.fr b = w.heap[b]?) (h2 : ∀ b, (∀ i, blkOf β H i ≠ some b) -> E'.fr b = E.fr b)
  (X : Ext h β [] h' β' [b0]) (s' : SR P E' h' β' [b0] w') :
  ∃ β'', Ren (fun _ => i) β' [b0] β'' (H.set i (b0.ren fun _ => i)) /\ Ext h β H h' β'' (H.set i (b0.ren fun _ => i)) /\ SR P E h' β'' (H.set i (b0.ren fun _ => i)) w' := by
 let β'' : Nat -> Value := fun j => if j = i then β' 0 else β j
 have hlt := (List.getElem?_eq_some_iff.1 hi).1
 have b1 : ∀ j, j ≠ i -> β'' j = β j := fun j hj => if_neg hj
 have b2 : β'' i = β' 0 := if_pos rfl
 have hsi : (H.set i (b0.ren fun _ => i))[i]? = some (b0.ren fun _ => i) := List.getElem?_set_self hlt
 have hne : ∀ j, j ≠ i -> (H.set i (b0.ren fun _ => i))[j]? = H[j]? := fun j hj => List.getElem?_set_ne (Ne.symm hj)
 have R : Ren (fun _ => i) β' [b0] β'' (H.set i (b0.ren fun _ => i)) := by
  refine ⟨fun k x e => ?_, fun k hk => ?_⟩
  ·cases k with
   | zero => cases e; exact hsi
   | succ k => simp at e
  ·have : k = 0 := by rw [List.length_singleton] at hk; omega
   subst this; exact b2
 have X' : Ext h β H h' β'' (H.set i (b0.ren fun _ => i)) := by
  refine ⟨X.imm, by simp, fun j x x' e e' => ?_⟩
  by_cases hj : j = i
  ·subst hj; rw [hi] at e; cases e; trivial
  ·rw [hne j hj, e] at e'; cases e'
   have := Blk.to_refl β j x
   cases x <;> first | exact rfl | trivial | (simp only [Blk.to, b1 j hj] at this ⊢; exact this)
 have o1 : ∀ j, j ≠ i -> blkOf β'' (H.set i (b0.ren fun _ => i)) j = blkOf β H j := fun j hj => by
  unfold blkOf; rw [hne j hj, b1 j hj]
 have o2 : blkOf β'' (H.set i (b0.ren fun _ => i)) i = blkOf β' [b0] 0 := R.blkOf (i := 0) (by simp)
 have hsplit : ∀ j x, blkOf β'' (H.set i (b0.ren fun _ => i)) j = some x -> (j ≠ i /\ blkOf β H j = some x) \/ (j = i /\ blkOf β' [b0] 0 = some x) := by
  intro j x e
  by_cases hj : j = i
  ·subst hj; exact .inr ⟨rfl, by rw [<- o2]; exact e⟩
  ·exact .inl ⟨hj, by rw [<- o1 j hj]; exact e⟩
 have hclash : ∀ i j b, blkOf β H i = some b -> blkOf β' [b0] j = some b -> False := by
  intro i j b e1 e2
  have h3 := s'.fro j b e2
  rw [h1 i b e1, Array.getElem?_eq_getElem (s.lt e1)] at h3
  cases h3
 have hkeep : ∀ i b, blkOf β H i = some b -> w'.heap[b]? = w.heap[b]? /\ h' b = none := by
  intro i b e
  have hlt := s.lt e
  have e1 : E'.fr b = some w.heap[b] := by rw [h1 i b e, Array.getElem?_eq_getElem hlt]
  obtain ⟨e2, e3⟩ := s'.frm b _ e1
  exact ⟨by rw [e2, Array.getElem?_eq_getElem hlt], e3⟩
 refine ⟨β'', R, X', s'.env.trans hb, s'.imm, fun j x e => ?_, fun j k x e1 e2 => ?_, fun j x e => ?_, fun b o e => ?_, fun j x e => ?_⟩
 ·by_cases hj : j = i
  ·subst hj
   rw [hsi] at e; cases e
   exact R.blk (i := 0) (by simp) (s'.blk 0 _ rfl)
  ·rw [hne j hj] at e
   exact (s.blk j x e).keep X' (b1 j hj) fun hd hd' b hb => (hkeep j b (by unfold blkOf; rw [e]; cases x <;> first | exact absurd rfl hd | exact absurd rfl hd' | exact hb)).1
 ·rcases hsplit j x e1 with ⟨_, a1⟩ | ⟨rfl, a1⟩ <;> rcases hsplit k x e2 with ⟨_, a2⟩ | ⟨rfl, a2⟩
  ·exact s.own _ _ _ a1 a2
  ·exact (hclash _ _ _ a1 a2).elim
  ·exact (hclash _ _ _ a2 a1).elim
  ·rfl
 ·rcases hsplit j x e with ⟨_, a1⟩ | ⟨rfl, a1⟩
  ·exact (hkeep j x a1).2
  ·exact s'.fresh _ _ a1
 ·by_cases hh : ∃ i, blkOf β H i = some b
  ·obtain ⟨i, hi⟩ := hh
   rw [s.fro _ _ hi] at e; cases e
  ·exact s'.frm b o (by rw [h2 b (fun i hi => hh ⟨i, hi⟩)]; exact e)
 ·rcases hsplit j x e with ⟨_, a1⟩ | ⟨rfl, a1⟩
  ·exact s.fro _ _ a1
  ·have h3 := s'.fro _ _ a1
   rw [h2 x (fun i hi => hclash _ _ _ hi a1)] at h3
   exact h3
theorem yb.giveAt {f : FuncId} {rs : List AV} {r : AV} {b0 : Blk} {k : AV -> List Blk -> Prop} (i : Nat) (hi : H[i]? = some .free) (x : yz P f rs r [b0]) (hk : k (r.ren fun _ => i) (H.set i (b0.ren fun _ => i))) : yb P f rs H k := by
 refine ⟨x.o.1, fun E h β w vs s hr => ?_⟩
 classical
 let E' : Env := ⟨E.b, fun b => if ∃ i, blkOf β H i = some b then w.heap[b]? else E.fr b, E.en⟩
 have s0 : SR P E' h β [] w := by
  refine ⟨s.env, s.imm, fun i x e => by simp at e, fun i j x e => by simp [blkOf] at e, fun i x e => by simp [blkOf] at e, fun b o e => ?_, fun i x e => by simp [blkOf] at e⟩
  simp only [E'] at e
  split at e
  ·rename_i hh; obtain ⟨i, hi⟩ := hh; exact ⟨e, s.fresh _ _ hi⟩
  ·exact s.frm b o e
 have hr0 : RepL P h β [] rs vs := ⟨hr.1, fun j y e => by
  obtain ⟨v, e1, e2⟩ := hr.2 j y e
  exact ⟨v, e1, Rep.cut (H := []) (l := H) e2 ((zA.1 x.lo) y (List.mem_of_getElem? e))⟩⟩
 refine (x.o.2 E' h β w vs s0 hr0).mono ?_
 rintro e w' ⟨r1, H1, h', β', v, rfl, ⟨rfl, rfl⟩, X, s', hrep⟩
 obtain ⟨β'', R, X', s''⟩ := s.besideAt hi (E' := E') rfl (fun i b e => by simp only [E']; rw [if_pos ⟨i, e⟩]) (fun b hn => by simp only [E']; rw [if_neg (fun ⟨i, hi⟩ => hn i hi)]) X s'
 exact ⟨_, _, h', β'', v, rfl, hk, X', s'', R.rep hrep⟩
theorem za.giveAt {f : FuncId} {rs : List AV} {r : AV} {b0 : Blk} {k : AV -> List Blk -> Prop} (i : Nat) (hi : lget H i = some .free) (x : yz P f rs r [b0]) (hk : k (r.ren fun _ => i) (H.set i (b0.ren fun _ => i))) : za P f rs H k := ⟨.giveAt i (by rw [zu] at hi; exact hi) x hk⟩
end
end GA
end
section
namespace GA
open Go Go.RowKit
def lexP (A : Array Oper) : Nat -> List Oper -> Bool
 | _, [] => true
 | k, o :: l => o.after.toList.all (fun e => !Region.binds .any e || Nat.blt e.on k) && l.all (fun oj => oj.after.toList.any (fun e => Region.binds .any e && Nat.beq e.on k) || o.apart A oj) && lexP A (k + 1) l
theorem zcE {ops : List Oper} : ∀ (l : List Oper) (k : Nat) (listed : Array Bool), (∀ j, l[j]? = ops[k + j]?) -> k + l.length = ops.length -> listed.size = ops.length -> (∀ j, listed.getD j true = decide (j < k \/ ops.length <= j)) -> lexP ops.toArray k l = true -> Region.lexFrom .any ops.toArray l.length k listed = true
 | [], k, listed, hl, hk, hs, hL, h => by
   rw [List.length_nil, Region.lexFrom, List.isEmpty_iff]
   refine List.eq_nil_iff_forall_not_mem.2 fun j hj => ?_
   obtain ⟨h1, o, ho, -⟩ := mem_ready.1 hj
   have hlt : j < ops.length := by simpa using (Array.getElem?_eq_some_iff.1 ho).1
   rw [hL, decide_eq_false_iff_not] at h1
   rw [List.length_nil] at hk
   omega
 | o :: l, k, listed, hl, hk, hs, hL, h => by
   simp only [lexP, Bool.and_eq_true] at h
   obtain ⟨⟨h1, h2⟩, h3⟩ := h
   have h0 : ops[k]? = some o := by have := hl 0; simpa using this.symm
   have hkl : k < ops.length := (List.getElem?_eq_some_iff.1 h0).1
   rw [List.length_cons] at hk
   simp only [List.length_cons, Region.lexFrom, Bool.and_eq_true]
   refine ⟨⟨?_, ?_⟩, ?_⟩
   ·rw [List.contains_iff_mem]
    refine mem_ready.2 ⟨by rw [hL, decide_eq_false_iff_not]; omega, o, by simpa using h0, fun e he hb => ?_⟩
    have h4 := List.all_eq_true.1 h1 e (by simpa using he)
    rw [hb] at h4
    simp only [Bool.not_true, Bool.false_or] at h4
    have h5 : e.on < k := Nat.blt_eq.mp h4
    have h6 := hL e.on
    rw [decide_eq_true (.inl h5)] at h6
    have h7 : e.on < listed.size := by omega
    simp only [Array.getD, h7, dite_true] at h6 ⊢
    exact h6
   ·unfold Region.free
    rw [show ops.toArray[k]? = some o by simpa using h0]
    dsimp only
    rw [List.all_eq_true]
    intro j hj
    have hjl : j < ops.length := by simpa using hj
    by_cases hjk : j < k \/ ops.length <= j
    ·rw [hL, decide_eq_true hjk]; simp
    ·by_cases he : j = k
     ·rw [he]; simp
     ·have hj2 : l[j - k - 1]? = ops[j]? := by
       have := hl (j - k)
       rw [show k + (j - k) = j by omega] at this
       rw [<- this, show j - k = (j - k - 1) + 1 by omega, List.getElem?_cons_succ]
       simp
      have hoj : ops[j]? = some ops[j] := List.getElem?_eq_getElem hjl
      rw [hoj] at hj2
      have hm := List.mem_of_getElem? hj2
      have h4 := List.all_eq_true.1 h2 _ hm
      rw [show ops.toArray[j]? = some ops[j] by simp [hjl]]
      dsimp only
      rw [Bool.or_eq_true] at h4
      rcases h4 with h4 | h4
      ·obtain ⟨e, he1, he2⟩ := List.any_eq_true.1 h4
       have h5 : (ops[j].after.any fun e => Region.binds .any e && e.on == k) = true := by
        rw [Array.any_eq_true']
        refine ⟨e, by simpa using he1, ?_⟩
        rw [Bool.and_eq_true] at he2 ⊢
        exact ⟨he2.1, by rw [beq_iff_eq]; exact Nat.eq_of_beq_eq_true he2.2⟩
       rw [h5]; simp
      ·rw [h4]; simp
   ·refine zcE l (k + 1) _ (fun j => ?_) (by omega) (by simpa using hs) (fun j => ?_) h3
    ·have := hl (j + 1)
     rw [List.getElem?_cons_succ] at this
     rw [this]; congr 1; omega
    ·by_cases hjk : k = j
     ·subst hjk
      have h7 : k < listed.size := by omega
      rw [decide_eq_true (.inl (by omega))]
      simp [h7]
     ·rw [getD_set_ne true hjk, hL]
      congr 1
      simp only [eq_iff_iff]
      omega
theorem lex_of {ops : List Oper} (h : (Region.noSelect ops.toArray && lexP ops.toArray 0 ops) = true) : Region.lexB .any ops.toArray = true := by
 rw [Bool.and_eq_true] at h
 simp only [Region.lexB, Bool.and_eq_true]
 refine ⟨h.1, ?_⟩
 have := zcE (ops := ops) ops 0 (Array.replicate ops.toArray.size false) (fun j => by rw [Nat.zero_add]) (by simp) (by simp) (fun j => ?_) h.2
 ·simpa using this
 ·by_cases hj : j < ops.length
  ·rw [decide_eq_false (by omega)]
   simp [hj]
  ·rw [decide_eq_true (.inr (by omega))]
   simp [hj]
end GA
end
section
namespace GA
open Go Go.RowKit
def tailC : Nat -> Code -> Code
 | n + 1, .seq _ b => tailC n b
 | _, c => c
def theC : Option Code -> Code
 | some c => c
 | none => .skip
theorem Walk.heapX {P : Program} {N : Nat} {r : Option Nat} {c : Code} {Q : Post} {D : List Nat} {σ : St} {H : List Blk} (H' : List Blk) (h : H' = H) (x : Walk P N r c Q D σ H') : Walk P N r c Q D σ H := h ▸ x
theorem jP {id : Nat} {K : List Nat -> St -> List Blk -> Prop} {Q : Post} {D : List Nat} {σ : St} {H : List Blk} (h : K D σ H) : zao id (yZ K Q) (.exit id) D σ H := by
 show (match Nat.beq id id with | true => yZ K Q .normal D σ H | false => yZ K Q (.exit id) D σ H)
 rw [Nat.beq_refl]; exact h
end GA
end
section
namespace GA
open Go Go.RowKit
section
variable {P : Program} {T : Tab} {N : Nat} {ρ : Option Nat} {D : List Nat} {σ : St} {H : List Blk} {Q : Post}
theorem Walk.weak {c : Code} (L : List (Nat × AV)) (hs : SubX L σ) (x : Walk P N ρ c Q D (stX L) H) : Walk P N ρ c Q D σ H := ⟨AWp.weaken (yC hs) x.o⟩
theorem Walk.loopGKW {c : Code} {G : Type} (K : List (Nat × AV)) (hK : SubX K σ) (I : G -> Prop) (L : G -> List (Nat × AV)) (hp : G -> List Blk) (μ : G -> Nat) (g0 : G) (h0 : I g0) (hH : hp g0 = H) (hs : SubX (L g0) σ)
  (hlow : ∀ g, I g -> (∀ x ∈ hp g, x.low (hp g).length = true) /\ ∀ p ∈ K ++ L g, p.2.low (hp g).length = true) (hlen : ∀ g, I g -> (hp g0).length <= (hp g).length)
  (round : ∀ g, I g -> Walk P N ρ c (yZ (zp I (fun g => K ++ L g) hp μ g) Q) [] (stX (K ++ L g)) (hp g)) : Walk P N ρ (.loop c) Q [] σ H := by
 constructor
 have hst : ∀ (l : List (Nat × AV)) t r, stX l t = some r -> (t, r) ∈ l := by
  intro l; induction l with
  | nil => intro t r h; cases h
  | cons p l ih =>
    obtain ⟨u, x⟩ := p
    intro t r h; simp only [stX, yV, upd] at h
    split at h
    ·rename_i e; cases h; subst e; exact List.mem_cons_self
    ·exact List.mem_cons_of_mem _ (ih t r h)
 refine AWp.loopG (G := {g : G // I g}) (fun g => stX (K ++ L g.1)) (fun g => hp g.1) (fun g => μ g.1) ⟨g0, h0⟩ (yC (hK.app hs)) hH rfl (fun g => ⟨(hlow g.1 g.2).1, fun t r e => (hlow g.1 g.2).2 (t, r) (hst _ _ _ e)⟩) (fun g => hlen g.1 g.2) fun g => ?_
 refine (round g.1 g.2).o.mono fun e D' σ' H' q => ?_
 cases e with
 | normal => obtain ⟨h1, g', l, h2, h3, h4, h5⟩ := q; exact ⟨h1, ⟨g', h2⟩, l, h3, h4, yC h5⟩
 | _ => exact q
end
end GA
end
section
namespace GA
open Go Go.RowKit
structure XGo (P : Program) (N : Nat) (ρ : Option Nat) (c : Code) (Q : Post) (D : List Nat) (σ : St) (H : List Blk) : Prop where
 o : Walk P N ρ c Q D σ H
def vV (P : Program) (T : Tab) (N : Nat) (ρ : Option Nat) (own : List Nat) : Code -> Post -> List Nat -> St -> List Blk -> Prop
 | .skip, Q, D, σ, H => Q .normal D σ H
 | .exit id, Q, D, σ, H => Q (.exit id) D σ H
 | .ret, Q, D, σ, H => Q .ret D σ H
 | .seq a b, Q, D, σ, H => vV P T N ρ own a (yZ (XGo P N ρ b Q) Q) D σ H
 | .cond c x y, Q, D, σ, H => bnd (ev σ c) fun r => match r with | .bool b => XBr b (XGo P N ρ x Q D σ H) (XGo P N ρ y Q D σ H) | _ => False
 | .block id b, Q, D, σ, H => XGo P N ρ b (zao id Q) D σ H
 | .region id ops false, Q, D, σ, H => match manyG 12 ops.toList with | true => Walk P N ρ (.region id ops false) Q D σ H | false => XReg P T N own ops.toList ops.toList σ H (Q .normal D)
 | c, Q, D, σ, H => Walk P N ρ c Q D σ H
section
variable {P : Program} {T : Tab} {N : Nat} {ρ : Option Nat} {own : List Nat}
theorem vV.sound (ok : zE P T) : ∀ {c : Code} {Q : Post} {D : List Nat} {σ : St} {H : List Blk}, vV P T N ρ own c Q D σ H -> AWp P N ρ c Q D σ H
 | .skip, _, _, _, _, x => .skip x
 | .exit _, _, _, _, _, x => .exit x
 | .ret, _, _, _, _, x => .ret x
 | .seq a b, Q, _, _, _, x => .seq (AWp.mono (Q := yZ (XGo P N ρ b Q) Q) (vV.sound ok (c := a) x) fun e D σ H q => by
   cases e with
   | normal => exact q.o.o
   | _ => exact q)
 | .cond c _ _, _, _, _, _, x => by
   obtain ⟨r, h1, h2⟩ := zf x
   split at h2
   ·exact .cond h1 (fun h => (h2.t h).o.o) (fun h => (h2.f h).o.o)
   ·exact h2.elim
 | .block id b, Q, D, σ, H, x => .block (by rw [<- zaT]; exact x.o.o)
 | .region id ops false, Q, D, σ, H, x => by
   unfold vV at x
   split at x
   ·exact x.o
   ·exact .regionX ok x
 | .region _ _ true, _, _, _, _, x => x.o
 | .loop _, _, _, _, _, x => x.o
 | .rangeFunc .., _, _, _, _, x => x.o
 | .scope _, _, _, _, _, x => x.o
 | .label _, _, _, _, _, x => x.o
 | .goto _, _, _, _, _, x => x.o
 | .refuse _, _, _, _, _, x => x.o
theorem XGo.go {c : Code} {Q : Post} {D : List Nat} {σ : St} {H : List Blk} (ok : zE P T) (own : List Nat) (x : vV P T N ρ own c Q D σ H) : XGo P N ρ c Q D σ H := ⟨⟨vV.sound ok x⟩⟩
theorem Walk.step {c : Code} {Q : Post} {D : List Nat} {σ : St} {H : List Blk} (ok : zE P T) (own : List Nat) (x : vV P T N ρ own c Q D σ H) : Walk P N ρ c Q D σ H := ⟨vV.sound ok x⟩
theorem XGo.at {c : Code} {Q : Post} {D : List Nat} {σ : St} {H : List Blk} (L : List (Nat × AV)) (hs : SubX L σ) (x : Walk P N ρ c Q D (stX L) H) : XGo P N ρ c Q D σ H := ⟨.weak L hs x⟩
end
end GA
end
section
namespace GA
open Go Go.RowKit
theorem XBr.y {p : Prop} [Decidable p] {A B : Prop} (x : p -> A) (h : p := by first | omega | (simp only [List.length_map]; omega)) : XBr (decide p) A B := .yes (decide_eq_true h) (x h)
theorem XBr.n {p : Prop} [Decidable p] {A B : Prop} (x : ¬ p -> B) (h : ¬ p := by first | omega | (simp only [List.length_map]; omega)) : XBr (decide p) A B := .no (decide_eq_false h) (x h)
theorem XBr.y1 {a b : Int} {A B : Prop} (x : a = b -> A) (h : a = b := by omega) : XBr (a == b) A B := .yes (beq_iff_eq.2 h) (x h)
theorem XBr.n1 {a b : Int} {A B : Prop} (x : a ≠ b -> B) (h : a ≠ b := by omega) : XBr (a == b) A B := .no (beq_eq_false_iff_ne.2 h) (x h)
theorem XBr.y2 {a b : Int} {A B : Prop} (x : a ≠ b -> A) (h : a ≠ b := by omega) : XBr (a != b) A B := .yes (bne_iff_ne.2 h) (x h)
theorem XBr.n2 {a b : Int} {A B : Prop} (x : a = b -> B) (h : a = b := by omega) : XBr (a != b) A B := .no (by rw [h]; exact bne_self_eq_false b) (x h)
theorem XInt.a {x : Int} {k : AV -> Prop} (y : k (.int .i64 x)) (l : -9223372036854775808 <= x := by omega) (u : x <= 9223372036854775807 := by omega) : XInt .i64 x k := .i64 l u y
theorem zh.a {p A : Prop} (x : A) (h : p := by first | omega | rfl | decide | exact ⟨rfl, by decide, rfl⟩ | exact wideI _ | (unfold Room; constructor <;> ((try simp) <;> omega)) | exact ⟨rfl, by simp only [List.length_map], by unfold Room; constructor <;> ((try simp) <;> omega)⟩ | exact ⟨by omega, by omega, by unfold Room; constructor <;> ((try simp) <;> omega)⟩ | fail) : zh p A := ⟨h, x⟩
theorem XIx.a {α : Type} [Inhabited α] {f : α -> AV} {xs : List α} {i w : Nat} {k : AV -> Prop} (x : k (.pim (f (xs.getD i default)).cells)) (h : i < xs.length := by omega) (hw : ∀ x, (f x).cells.length = w := by intro _; rfl) : XIx (xs.map f) (i : Int) w k := .nat h hw x
theorem XIx.b {α : Type} [Inhabited α] {f : α -> AV} {xs : List α} {n : Int} {w : Nat} {k : AV -> Prop} (x : k (.pim (f (xs.getD n.toNat default)).cells)) (h1 : 0 <= n := by omega) (h2 : n < xs.length := by omega) (hw : ∀ x, (f x).cells.length = w := by intro _; rfl) : XIx (xs.map f) n w k := .map h1 h2 hw x
end GA
end
section
namespace GA
open Go Go.RowKit Go.Proofs
theorem zg : Tryz.prog.follows .mixedOrders = true := by kernel_rfl
theorem ve {α : Type} {p : α -> Bool} {xs : List α} {d : α} (h : ∀ j, j < xs.length -> p (xs.getD j d) = false) : xs.findIdx? p = none := by
 rw [List.findIdx?_eq_none_iff]; intro x hx
 obtain ⟨j, hj, rfl⟩ := List.mem_iff_getElem.1 hx
 have := h j hj; rwa [List.getD_eq_getElem?_getD, List.getElem?_eq_getElem hj] at this
theorem vk {α : Type} {p : α -> Bool} {xs : List α} {d : α} {i : Nat} (hi : i < xs.length) (hp : p (xs.getD i d) = true) (h : ∀ j, j < i -> p (xs.getD j d) = false) : xs.findIdx? p = some i := by
 rw [List.findIdx?_eq_some_iff_getElem]
 refine ⟨hi, by rwa [List.getD_eq_getElem?_getD, List.getElem?_eq_getElem hi] at hp, fun j hj => ?_⟩
 have := h j hj; rw [List.getD_eq_getElem?_getD, List.getElem?_eq_getElem (by omega)] at this; simpa using this
theorem zB {α : Type} {xs : List α} {d : α} {i : Nat} (hi : i < xs.length) : xs.getD i d ∈ xs := by
 rw [List.getD_eq_getElem?_getD, List.getElem?_eq_getElem hi]; exact List.getElem_mem hi
def idxR {α : Type} (p : α -> Bool) (xs : List α) : Int := match xs.findIdx? p with | some i => i | none => -1
theorem qr {α : Type} {p : α -> Bool} {xs : List α} : (0 <= idxR p xs) ↔ xs.any p = true := by
 unfold idxR
 cases h : xs.findIdx? p with
 | none => rw [List.findIdx?_eq_none_iff] at h; simp; intro x hx; simpa using h x hx
 | some i =>
   rw [List.findIdx?_eq_some_iff_getElem] at h; obtain ⟨h1, h2, _⟩ := h
   simp; exact ⟨_, List.getElem_mem h1, h2⟩
theorem idxf_int (nl : Bool) (xs : List Int) (g : FuncId) (caps : List AV) (p : Int -> Bool) (hl : lowL 0 caps = true) (hx : xs.length <= 100000) (hp : ∀ x ∈ xs, Comp Tryz.prog g (.int .i64 x :: caps) (.bool (p x))) :
  Comp Tryz.prog 254 [.sl nl (ints xs), .fn g caps] (.int .i64 (idxR p xs)) := by
 refine Comp.body (T := tab) (res := [.tmp 4]) zb [] Tryz.func254 rfl (by kernel_rfl) Tryz.ntmps254 rfl (by simp only [List.length_cons, List.length_nil]; decide) (by simp only [lowL, AV.low, lowI, hl]; rfl) ?_; conv => whnf
 refine Walk.loop zb [] (fun i : Nat => i <= xs.length /\ ∀ j, j < i -> p (xs.getD j default) = false) (fun i => [(0, .sl nl (ints xs)), (1, .fn g caps), (7, .int .i64 xs.length), (8, .int .i64 i)]) (fun _ => []) (fun i => xs.length - i) 0 ⟨by omega, by omega⟩ rfl ⟨rfl, rfl, by simp only [List.length_map]; rfl, rfl, trivial⟩ ?_
 rintro i ⟨h2, h3⟩
 conv => whnf
 repeat' first | (refine XIx.a ?_; conv => whnf) | ((with_reducible apply XBr.dec) <;> (intro h; first | (exfalso; omega) | ((try simp only [List.length_map] at h); first | (exfalso; omega) | (conv => whnf)))) | fail
 ·refine za.ret (hp _ (zB (i := i) (d := default) (by omega))) ?_
  conv => whnf
  refine XBr.mk' ?_ ?_ <;> intro h4 <;> (conv => whnf)
  ·refine XOut.int ?_
   simp only [idxR, vk (d := default) (i := i) (by omega) h4 h3]
  ·skip
   repeat' ((with_reducible refine XInt.a ?_); conv => whnf)
   refine zk.go (i + 1) ⟨by omega, fun j hj => ?_⟩ (by omega) rfl ⟨rfl, rfl, rfl, rfl, trivial⟩
   by_cases hji : j = i
   ·subst hji; exact h4
   ·exact h3 j (by omega)
 ·refine XOut.int ?_
  simp only [idxR, ve (d := default) fun j hj => h3 j (by omega)]
theorem zbi (nl : Bool) (xs : List Int) (g : FuncId) (caps : List AV) (p : Int -> Bool) (hl : lowL 0 caps = true) (hx : xs.length <= 100000) (hp : ∀ x ∈ xs, Comp Tryz.prog g (.int .i64 x :: caps) (.bool (p x))) :
  Comp Tryz.prog 197 [.sl nl (ints xs), .fn g caps] (.bool (xs.any p)) := by
 refine Comp.body (T := tab) (res := [.tmp 4]) zb [] Tryz.func197 rfl (by kernel_rfl) Tryz.ntmps197 rfl (by simp only [List.length_cons, List.length_nil]; decide) (by simp only [lowL, AV.low, lowI, hl]; rfl) ?_; conv => whnf
 refine za.ret (idxf_int nl xs g caps p hl hx hp) ?_
 conv => whnf
 refine XOut.bool ?_
 rw [Bool.eq_iff_iff, decide_eq_true_eq]; exact qr
theorem vI {α : Type} {xs ys : List α} {d : α} (hl : xs.length = ys.length) (h : ∀ j, j < xs.length -> xs.getD j d = ys.getD j d) : xs = ys := by
 apply List.ext_getElem hl
 intro j h1 h2
 have := h j h1
 rwa [List.getD_eq_getElem?_getD, List.getD_eq_getElem?_getD, List.getElem?_eq_getElem h1, List.getElem?_eq_getElem h2] at this
theorem zaN (n1 n2 : Bool) (xs ys : List Int) (hx : xs.length <= 100000) : Comp Tryz.prog 169 [.sl n1 (ints xs), .sl n2 (ints ys)] (.bool (xs == ys)) := by
 refine Comp.body (T := tab) (res := [.tmp 4]) zb [] Tryz.func169 rfl (by kernel_rfl) Tryz.ntmps169 rfl (by simp only [List.length_cons, List.length_nil]; decide) (by simp only [lowL, AV.low, lowI]; rfl) ?_; conv => whnf
 repeat' ((with_reducible first | refine XBr.y2 fun h => ?_ | refine XBr.n2 fun h => ?_ | refine XBr.bne (fun h => ?_) fun h => ?_) <;> conv => whnf)
 ·refine XOut.bool ?_
  rw [Bool.eq_iff_iff]; simp; intro e; subst e; simp at h
 have hl : (xs.length : Int) = ys.length := by simpa using h
 refine Walk.loop zb [] (fun i : Nat => i <= xs.length /\ ∀ j, j < i -> xs.getD j default = ys.getD j default) (fun i => [(0, .sl n1 (ints xs)), (1, .sl n2 (ints ys)), (12, .int .i64 xs.length), (13, .int .i64 i)]) (fun _ => []) (fun i => xs.length - i) 0 ⟨by omega, by omega⟩ rfl ⟨rfl, rfl, by simp only [List.length_map]; rfl, rfl, trivial⟩ ?_
 rintro i ⟨h2, h3⟩
 conv => whnf
 repeat' ((with_reducible apply XBr.dec) <;> (intro h; first | (exfalso; omega) | ((try simp only [List.length_map] at h); first | (exfalso; omega) | (conv => whnf))))
 ·apply Walk.drawX zb zg [] [] (fun _ => []) [_, _, _, _, _, _, _, _, _] (by kernel_rfl) rfl
  ·skip
   repeat' first | ((with_reducible first | apply Chk.go | apply ChkA.go); conv => whnf) | (refine XIx.a ?_; conv => whnf) | (with_reducible first | apply XAnd.mk | exact trivial) | (exact zd.mk rfl rfl) | fail
  ·skip
   repeat' first | ((with_reducible first | apply ChkF.go | apply ChkB.go); conv => whnf) | (with_reducible first | apply XAnd.mk | exact trivial) | fail
  ·conv => whnf
   repeat' ((with_reducible first | refine XBr.y2 fun h => ?_ | refine XBr.n2 fun h => ?_ | refine XBr.bne (fun h => ?_) fun h => ?_ | refine XInt.a ?_) <;> conv => whnf)
   ·refine XOut.bool ?_
    rw [Bool.eq_iff_iff]; simp
    intro e; subst e; exact h rfl
   ·refine zk.go (i + 1) ⟨by omega, fun j hj => ?_⟩ (by omega) rfl ⟨rfl, rfl, rfl, rfl, trivial⟩
    by_cases hji : j = i
    ·subst hji; exact h
    ·exact h3 j (by omega)
 ·refine XOut.bool ?_
  have := vI (by omega) fun j hj => h3 j (by omega)
  rw [this]; simp
theorem kL (n1 n2 : Bool) (xs ys : List Int) (hx : xs.length <= 100000) : Comp Tryz.prog 46 [.sl n1 (ints xs), .sl n2 (ints ys)] (.bool (xs == ys)) := by
 refine Comp.body (T := tab) (res := [.tmp 4]) zb [] Tryz.func46 rfl (by kernel_rfl) Tryz.ntmps46 rfl (by simp only [List.length_cons, List.length_nil]; decide) (by simp only [lowL, AV.low, lowI]; rfl) ?_; conv => whnf
 refine za.ret (zaN n1 n2 xs ys hx) ?_
 conv => whnf
 exact XOut.bool rfl
def slA (xs : List Int) : AV := .sl xs.isEmpty (ints xs)
structure Sk where
 m : Int
 o : Int
 deriving Inhabited, DecidableEq
def prA (p : Int × Int) : AV := .agg [.int .i64 p.1, .int .i64 p.2]
structure Ld where
 bears : Int
 shrink : Int
 nls : Bool
 sacks : List Sk
 nla : Bool
 apart : List (Int × Int)
 nlw : Bool
 wth : List (Int × Int)
def weightR (l : Ld) (s : Sk) : Int := s.m - s.m * l.shrink / 100
theorem shl_nat {k : Nat} (hk : k <= 64) : (1 : Int) * 2 ^ (min (k : Int).toNat IntKind.i64.bits) = ((2 ^ k : Nat) : Int) := by
 have : min (k : Int).toNat IntKind.i64.bits = k := by simp only [Int.toNat_natCast, IntKind.bits]; omega
 rw [this]; simp
def natA (n : Nat) : AV := .int .i64 n
def hsK (H : List Blk) : List Bool -> List Blk := fun _ => H
theorem XInt.eq {x y : Int} {k : AV -> Prop} (e : x = y) (h1 : -9223372036854775808 <= y) (h2 : y <= 9223372036854775807) (h : k (.int .i64 y)) : XInt .i64 x k := by subst e; exact .i64 h1 h2 h
def Sub (a b : Nat) : Prop := ∀ i, a.testBit i = true -> b.testBit i = true
theorem jM (f : Nat -> Nat) (t : TypeId) (nl : Bool) (xs : List Int) : (Blk.grow t nl (ints xs)).ren f = .grow t nl (ints xs) := Blk.ren_low (n := 0) (fun i hi => by omega) (lowI xs)
structure Hp where
 nl : Bool
 bs : List Int
 nx : Nat
 rd : Int
 deriving Inhabited
theorem zD {α : Type} (l : List α) (x : α) : (l ++ [x]).isEmpty = (l.isEmpty && false) := by cases l <;> rfl
def hp0 (nl : Bool) (bs : List Int) : Hp := ⟨nl, bs, 0, 0⟩
theorem dup_g (nl : Bool) (xs : List Int) (hx : xs.length <= 100000) : yz Tryz.prog 125 [.sl nl (ints xs)] (.gr 0 xs.length) [.grow 3 false (ints xs)] := by
 refine yz.body (T := tab) (res := [.tmp 2]) zb [] Tryz.func125 rfl (by kernel_rfl) Tryz.ntmps125 rfl (by simp only [List.length_cons, List.length_nil]; decide) (by simp only [lowL, AV.low, lowI]; rfl) rfl (fun x hx => by simp only [List.mem_cons, List.not_mem_nil, or_false] at hx; subst hx; exact lowI _) ?_; conv => whnf
 refine zh.mk ⟨by omega, by simp, by unfold Room; simp; omega⟩ ?_
 conv => whnf
 refine zh.mk (wideI xs) ?_
 conv => whnf
 refine zh.mk ⟨rfl, rfl, by unfold Room; simp; omega⟩ ?_
 conv => whnf
 exact wO.mk' [0] rfl (by decide) ⟨congrArg some (jM _ _ _ _).symm, trivial⟩ (by show AV.gr 0 _ = AV.gr 0 _; congr 1; show 0 + (ints xs).length = _; rw [List.length_map, Nat.zero_add])
def Inv (c : Nat) (b : List Nat) : Prop := ∀ i, (c.testBit i = true -> Sub (b.getD i 0) c) /\ (c.testBit i = false -> ∀ j, (b.getD i 0).testBit j = true -> c.testBit j = false)
def wsL (l : Ld) : List Int := l.sacks.map (weightR l)
def e0 (l : Ld) : AV := .agg [.int .i64 l.bears, .sl (wsL l).isEmpty (ints (wsL l))]
def setN : List Bool -> Nat
 | [] => 0
 | b :: bs => 2 * setN bs + b.toNat
theorem zcX : ∀ (bs : List Bool) (k : Nat), (setN bs).testBit k = bs.getD k false
 | [], k => by simp [setN]
 | b :: bs, 0 => by
   unfold setN; rw [Nat.testBit_zero]; cases b <;> simp <;> omega
 | b :: bs, k + 1 => by
   unfold setN; rw [Nat.testBit_succ, show (2 * setN bs + b.toNat) / 2 = setN bs by cases b <;> simp <;> omega, zcX bs k]; rfl
abbrev yL (xs : List (List Int)) : List AV := xs.map slA
theorem lowRw {n : Nat} (xs : List (List Int)) : lowL n (yL xs) = true := y6 (f := slA) (fun x => (lowI x : lowL n (ints x) = true)) xs
theorem equalI (n1 n2 : Bool) (xs : List Int) (hx : xs.length <= 100000) : Comp Tryz.prog 169 [.sl n1 (ints xs), .sl n2 (ints xs)] (.bool true) := by
 have h := zaN n1 n2 xs xs hx
 rwa [show (xs == xs) = true by simp] at h
theorem equalRows (n1 n2 : Bool) (xs : List (List Int)) (hx : xs.length <= 1000) (hr : ∀ r ∈ xs, r.length <= 1000) : Comp Tryz.prog 179 [.sl n1 (yL xs), .sl n2 (yL xs), .fn 169 []] (.bool true) := by
 refine Comp.body (T := tab) (res := [.tmp 6]) zb [] Tryz.func179 rfl (by kernel_rfl) Tryz.ntmps179 rfl (by simp only [List.length_cons, List.length_nil]; decide) (by simp only [lowL, AV.low, lowRw]; rfl) ?_; conv => whnf
 repeat' ((with_reducible first | refine XBr.y2 fun h => ?_ | refine XBr.n2 fun h => ?_ | refine XBr.bne (fun h => ?_) fun h => ?_) <;> conv => whnf)
 refine Walk.loop zb [] (fun i : Nat => i <= xs.length) (fun i => [(1, .sl n2 (yL xs)), (2, .fn 169 []), (15, .sl n1 (yL xs)), (16, natA xs.length), (17, natA i)]) (fun _ => []) (fun i => xs.length - i) 0 (Nat.zero_le _) rfl ⟨rfl, rfl, rfl, by simp only [List.length_map]; rfl, rfl, trivial⟩ ?_
 intro i hi
 have hri : i < xs.length -> (xs.getD i default).length <= 1000 := fun h => hr _ (zB h)
 conv => whnf
 repeat' first | ((with_reducible first | apply XBr.tt | refine XInt.a ?_); conv => whnf) | (refine XIx.a ?_; conv => whnf) | with_reducible apply XBr.not | ((with_reducible apply XBr.dec) <;> (intro h; first | (exfalso; omega) | ((try simp only [List.length_map] at h); first | (exfalso; omega) | (conv => whnf)))) | ((refine za.ret (equalI _ _ (xs.getD i default) (by have := hri (by omega); omega)) ?_); conv => whnf) | fail
 ·exact zk.go (i + 1) (by omega) (by omega) rfl ⟨rfl, rfl, rfl, rfl, rfl, trivial⟩
 ·exact XOut.bool rfl
theorem eqRows (n1 n2 : Bool) (xs : List (List Int)) (hx : xs.length <= 1000) (hr : ∀ r ∈ xs, r.length <= 1000) : Comp Tryz.prog 64 [.sl n1 (yL xs), .sl n2 (yL xs)] (.bool true) := by
 refine Comp.body (T := tab) (res := [.tmp 4]) zb [] Tryz.func64 rfl (by kernel_rfl) Tryz.ntmps64 rfl (by simp only [List.length_cons, List.length_nil]; decide) (by simp only [lowL, AV.low, lowRw]; rfl) ?_; conv => whnf
 repeat' ((refine za.ret (equalRows n1 n2 xs hx hr) ?_); conv => whnf)
 exact XOut.bool rfl
theorem vj {α : Type} [Inhabited α] {xs : List α} {k : Nat} (h : k < xs.length) : xs.drop k = xs.getD k default :: xs.drop (k + 1) := by
 rw [List.drop_eq_getElem_cons h, List.getD_eq_getElem?_getD, List.getElem?_eq_getElem h]; rfl
def cmpL : List Int -> List Int -> Int
 | [], [] => 0
 | [], _ :: _ => -1
 | _ :: _, [] => 1
 | x :: xs, y :: ys => if x < y then -1 else if y < x then 1 else cmpL xs ys
theorem cmpL_next {xs ys : List Int} {k : Nat} (hx : k < xs.length) (hy : k < ys.length) : cmpL (xs.drop k) (ys.drop k) = if xs.getD k default < ys.getD k default then -1 else if ys.getD k default < xs.getD k default then 1 else cmpL (xs.drop (k + 1)) (ys.drop (k + 1)) := by
 rw [vj hx, vj hy]; rfl
theorem cmpL_both {xs ys : List Int} {k : Nat} (hx : xs.length <= k) (hy : ys.length <= k) : cmpL (xs.drop k) (ys.drop k) = 0 := by
 rw [List.drop_of_length_le hy, List.drop_of_length_le hx]; rfl
def insRen : Go.Shelf.Ren := ⟨fun | 21 => 264 | 27 => 277 | 28 => 278 | 35 => 282 | 39 => 283 | n => n, fun | 0 => 0 | 3 => 3 | 4 => 4 | 22 => 22 | n => n, fun n => n⟩
theorem insLays : Lays2.n21 Tryz.prog insRen where
 mixed := by kernel_rfl
 f21 := Tryz.func264.trans (congrArg some (by kernel_rfl))
 f27 := Tryz.func277.trans (congrArg some (by kernel_rfl))
 f28 := Tryz.func278.trans (congrArg some (by kernel_rfl))
 f35 := Tryz.func282.trans (congrArg some (by kernel_rfl))
 f39 := Tryz.func283.trans (congrArg some (by kernel_rfl))
 t0 := Tryz.underlying0
 a0 := Tryz.isAgg0
 z0 := Tryz.sizeOf0
 v0 := Tryz.zeroValue0
 t3 := Tryz.underlying3
 a3 := Tryz.isAgg3
 z3 := Tryz.sizeOf3
 v3 := Tryz.zeroValue3
 t4 := Tryz.underlying4
 a4 := Tryz.isAgg4
 z4 := Tryz.sizeOf4
 v4 := Tryz.zeroValue4
 t22 := Tryz.underlying22
 a22 := Tryz.isAgg22
 z22 := Tryz.sizeOf22
 v22 := Tryz.zeroValue22
 i3 := by kernel_rfl
theorem za.insert {H : List Blk} {i j n p : Nat} {nl : Bool} {ys : List Int} {x q : Int} {k : AV -> List Blk -> Prop} (hi : lget H i = some (.grow 3 nl (ints ys))) (hj : lget H j = some (.grow 3 false [.int .i64 x]))
  (hij : i ≠ j) (hl : ys.length = n) (hq : q = p) (hp : p <= n) (hn : n <= 1000000) (hk : k (.gr i (n + 1)) (H.set i (.grow 3 false (ints (vS ys p x))))) : za Tryz.prog 264 [.gr i n, .int .i64 q, .gr j 1] H k := by
 subst hl hq
 rw [zu] at hi hj
 exact ⟨yb.insert insLays hi hj hij hp hn hk⟩
structure Mo where
 g : Int
 r : Int
 pl : Int
 ph : Int
 tl : Int
 th : Int
 deriving Inhabited, DecidableEq
structure Su where
 m : Int
 lo : Int
 hi : Int
 deriving Inhabited, DecidableEq
structure Bd where
 room : Int
 first : Int
 unsure : Int
 nlm : Bool
 months : List Mo
 nls : Bool
 surveys : List Su
 deriving Inhabited
def moA (m : Mo) : AV := .agg [.int .i64 m.g, .int .i64 m.r, .int .i64 m.pl, .int .i64 m.ph, .int .i64 m.tl, .int .i64 m.th]
def suA (s : Su) : AV := .agg [.int .i64 s.m, .int .i64 s.lo, .int .i64 s.hi]
def spA (lo hi : Int) : AV := .agg [.int .i64 lo, .int .i64 hi]
def bedC (b : Bd) : List AV := [.int .i64 b.room, .int .i64 b.first, .int .i64 b.unsure, .sl b.nlm (b.months.map moA), .sl b.nls (b.surveys.map suA)]
def bedA (b : Bd) : AV := .agg (bedC b)
theorem moL {n : Nat} (m : Mo) : (moA m).low n = true := rfl
theorem suL {n : Nat} (m : Su) : (suA m).low n = true := rfl
theorem yn {n : Nat} (xs : List Mo) : lowL n (xs.map moA) = true := y6 (fun _ => rfl) xs
theorem yO {n : Nat} (xs : List Su) : lowL n (xs.map suA) = true := y6 (fun _ => rfl) xs
theorem wideMo (xs : List Mo) : wide 6 (xs.map moA) = true := w7 (f := moA) (n := 6) (fun _ => rfl) (fun _ => rfl) xs
theorem wideSu (xs : List Su) : wide 3 (xs.map suA) = true := w7 (f := suA) (n := 3) (fun _ => rfl) (fun _ => rfl) xs
theorem zY {n : Nat} (b : Bd) : lowL n (bedC b) = true := by simp only [bedC, lowL, AV.low, yn, yO]; rfl
theorem bedL {n : Nat} (b : Bd) : (bedA b).low n = true := zY b
def inZ (n lo hi : Int) : Bool := decide (lo <= n) && decide (n <= hi)
theorem zx {n lo hi : Int} : inZ n lo hi = true ↔ lo <= n /\ n <= hi := by simp [inZ]
theorem y8 (n lo hi : Int) : Comp Tryz.prog 99 [.int .i64 n, .int .i64 lo, .int .i64 hi] (.bool (inZ n lo hi)) := by
 refine Comp.body (T := tab) (res := [.tmp 6]) zb [] Tryz.func99 rfl (by kernel_rfl) Tryz.ntmps99 rfl (by simp only [List.length_cons, List.length_nil]; decide) (by rfl) ?_; conv => whnf
 repeat' first | ((with_reducible first | apply XBr.tt | apply XBr.ff); conv => whnf) | ((with_reducible apply XBr.dec) <;> (intro h; first | (exfalso; omega) | ((try simp only [List.length_map] at h); first | (exfalso; omega) | (conv => whnf)))) | fail
 all_goals (refine XOut.bool ?_; rw [Bool.eq_iff_iff]; simp [inZ]; try omega)
def yo (l h lo hi : Int) : Bool := inZ l lo hi && inZ h l hi
theorem zcy (l h lo hi : Int) : Comp Tryz.prog 149 [spA l h, .int .i64 lo, .int .i64 hi] (.bool (yo l h lo hi)) := by
 refine Comp.body (T := tab) (res := [.tmp 6]) zb [] Tryz.func149 rfl (by kernel_rfl) Tryz.ntmps149 rfl (by simp only [List.length_cons, List.length_nil]; decide) (by rfl) ?_; conv => whnf
 repeat' first | ((first | (with_reducible first | apply XBr.tt | apply XBr.ff) | (refine za.ret (y8 _ _ _) ?_)); conv => whnf) | ((with_reducible refine XBr.mk' (fun h => ?_) fun h => ?_) <;> conv => whnf) | fail
 all_goals exact XOut.bool (by unfold yo; rw [h]; rfl)
theorem zS (b : Bd) (n : Int) : Comp Tryz.prog 98 [bedA b, .int .i64 n] (.bool (inZ n 0 b.room)) := by
 refine Comp.body (T := tab) (res := [.tmp 4]) zb [] Tryz.func98 rfl (by kernel_rfl) Tryz.ntmps98 rfl (by simp only [List.length_cons, List.length_nil]; decide) (by simp only [lowL, bedL, AV.low]; rfl) ?_; conv => whnf
 repeat' ((refine za.ret (y8 _ _ _) ?_); conv => whnf)
 all_goals exact XOut.bool rfl
def moR (b : Bd) (m : Mo) : Bool := inZ m.g 0 100 && inZ m.r 0 b.room && yo m.pl m.ph 0 60 && yo m.tl m.th 0 60
theorem zdK (b : Bd) (m : Mo) : Comp Tryz.prog 146 [bedA b, moA m] (.bool (moR b m)) := by
 refine Comp.body (T := tab) (res := [.tmp 4]) zb [] Tryz.func146 rfl (by kernel_rfl) Tryz.ntmps146 rfl (by simp only [List.length_cons, List.length_nil]; decide) (by simp only [lowL, bedL, moL]; rfl) ?_; conv => whnf
 repeat' first | ((first | (with_reducible first | apply XBr.tt | apply XBr.ff) | (first | refine za.ret (y8 _ _ _) ?_ | refine za.ret (zS b _) ?_ | refine za.ret (zcy _ _ _ _) ?_)); conv => whnf) | ((with_reducible refine XBr.mk' (fun h => ?_) fun h => ?_) <;> conv => whnf) | fail
 all_goals exact XOut.bool (by unfold moR; simp [*])
theorem yX (n : Int) (nl : Bool) (xs : List Int) (hx : xs.length <= 100000) : Comp Tryz.prog 108 [.int .i64 n, .sl nl (ints xs)] (.int .i64 (xs.foldl max n)) := by
 have e1 : ((ints xs).length : Int) = xs.length := by rw [List.length_map]
 refine Comp.body (T := tab) (res := [.tmp 4]) zb [] Tryz.func108 rfl (by kernel_rfl) Tryz.ntmps108 rfl (by simp only [List.length_cons, List.length_nil]; decide) (by simp only [lowL, AV.low, lowI]; rfl) ?_; conv => whnf
 skip
 refine Walk.loop zb [] (fun k : Nat => k <= xs.length) (fun k => [(0, .int .i64 ((xs.take k).foldl max n)), (4, .int .i64 0), (7, .sl nl (ints xs)), (8, .int .i64 (ints xs).length), (9, natA k)]) (fun _ => []) (fun k => xs.length - k) 0 (Nat.zero_le _) rfl ⟨rfl, rfl, rfl, rfl, rfl, trivial⟩ ?_
 intro k hk
 conv => whnf
 repeat' first | ((with_reducible refine XInt.a ?_); conv => whnf) | (refine XIx.a ?_; conv => whnf) | ((with_reducible apply XBr.dec) <;> (intro h; first | (exfalso; omega) | ((try simp only [List.length_map] at h); first | (exfalso; omega) | (conv => whnf)))) | fail
 ·refine zk.go (k + 1) (show k + 1 <= xs.length by omega) (by omega) rfl ⟨?_, rfl, rfl, rfl, rfl, trivial⟩
  show some (AV.int .i64 _) = some (AV.int .i64 ((xs.take (k + 1)).foldl max n))
  rw [jo (by omega), List.foldl_append]
  rfl
 ·refine XOut.int ?_
  rw [List.take_of_length_le (by omega)]
theorem idxf_mo (nl : Bool) (xs : List Mo) (g : FuncId) (caps : List AV) (p : Mo -> Bool) (hl : lowL 0 caps = true) (hx : xs.length <= 100000) (hp : ∀ x ∈ xs, Comp Tryz.prog g (moA x :: caps) (.bool (p x))) :
  Comp Tryz.prog 266 [.sl nl (xs.map moA), .fn g caps] (.int .i64 (idxR p xs)) := by
 refine Comp.body (T := tab) (res := [.tmp 4]) zb [] Tryz.func266 rfl (by kernel_rfl) Tryz.ntmps266 rfl (by simp only [List.length_cons, List.length_nil]; decide) (by simp only [lowL, AV.low, yn, hl]; rfl) ?_; conv => whnf
 refine Walk.loop zb [] (fun i : Nat => i <= xs.length /\ ∀ j, j < i -> p (xs.getD j default) = false) (fun i => [(0, .sl nl (xs.map moA)), (1, .fn g caps), (7, .int .i64 xs.length), (8, .int .i64 i)]) (fun _ => []) (fun i => xs.length - i) 0 ⟨by omega, by omega⟩ rfl ⟨rfl, rfl, by simp only [List.length_map]; rfl, rfl, trivial⟩ ?_
 rintro i ⟨h2, h3⟩
 conv => whnf
 repeat' first | (refine XIx.a ?_; conv => whnf) | ((with_reducible apply XBr.dec) <;> (intro h; first | (exfalso; omega) | ((try simp only [List.length_map] at h); first | (exfalso; omega) | (conv => whnf)))) | fail
 ·refine za.ret (hp _ (zB (i := i) (d := default) (by omega))) ?_
  conv => whnf
  refine XBr.mk' ?_ ?_ <;> intro h4 <;> (conv => whnf)
  ·refine XOut.int ?_
   simp only [idxR, vk (d := default) (i := i) (by omega) h4 h3]
  ·skip
   repeat' ((with_reducible refine XInt.a ?_); conv => whnf)
   refine zk.go (i + 1) ⟨by omega, fun j hj => ?_⟩ (by omega) rfl ⟨rfl, rfl, rfl, rfl, trivial⟩
   by_cases hji : j = i
   ·subst hji; exact h4
   ·exact h3 j (by omega)
 ·refine XOut.int ?_
  simp only [idxR, ve (d := default) fun j hj => h3 j (by omega)]
theorem contf_mo (nl : Bool) (xs : List Mo) (g : FuncId) (caps : List AV) (p : Mo -> Bool) (hl : lowL 0 caps = true) (hx : xs.length <= 100000) (hp : ∀ x ∈ xs, Comp Tryz.prog g (moA x :: caps) (.bool (p x))) :
  Comp Tryz.prog 231 [.sl nl (xs.map moA), .fn g caps] (.bool (xs.any p)) := by
 refine Comp.body (T := tab) (res := [.tmp 4]) zb [] Tryz.func231 rfl (by kernel_rfl) Tryz.ntmps231 rfl (by simp only [List.length_cons, List.length_nil]; decide) (by simp only [lowL, AV.low, yn, hl]; rfl) ?_; conv => whnf
 refine za.ret (idxf_mo nl xs g caps p hl hx hp) ?_
 conv => whnf
 refine XOut.bool ?_
 rw [Bool.eq_iff_iff, decide_eq_true_eq]; exact qr
theorem idxf_su (nl : Bool) (xs : List Su) (g : FuncId) (caps : List AV) (p : Su -> Bool) (hl : lowL 0 caps = true) (hx : xs.length <= 100000) (hp : ∀ x ∈ xs, Comp Tryz.prog g (suA x :: caps) (.bool (p x))) :
  Comp Tryz.prog 267 [.sl nl (xs.map suA), .fn g caps] (.int .i64 (idxR p xs)) := by
 refine Comp.body (T := tab) (res := [.tmp 4]) zb [] Tryz.func267 rfl (by kernel_rfl) Tryz.ntmps267 rfl (by simp only [List.length_cons, List.length_nil]; decide) (by simp only [lowL, AV.low, yO, hl]; rfl) ?_; conv => whnf
 refine Walk.loop zb [] (fun i : Nat => i <= xs.length /\ ∀ j, j < i -> p (xs.getD j default) = false) (fun i => [(0, .sl nl (xs.map suA)), (1, .fn g caps), (7, .int .i64 xs.length), (8, .int .i64 i)]) (fun _ => []) (fun i => xs.length - i) 0 ⟨by omega, by omega⟩ rfl ⟨rfl, rfl, by simp only [List.length_map]; rfl, rfl, trivial⟩ ?_
 rintro i ⟨h2, h3⟩
 conv => whnf
 repeat' first | (refine XIx.a ?_; conv => whnf) | ((with_reducible apply XBr.dec) <;> (intro h; first | (exfalso; omega) | ((try simp only [List.length_map] at h); first | (exfalso; omega) | (conv => whnf)))) | fail
 ·refine za.ret (hp _ (zB (i := i) (d := default) (by omega))) ?_
  conv => whnf
  refine XBr.mk' ?_ ?_ <;> intro h4 <;> (conv => whnf)
  ·refine XOut.int ?_
   simp only [idxR, vk (d := default) (i := i) (by omega) h4 h3]
  ·skip
   repeat' ((with_reducible refine XInt.a ?_); conv => whnf)
   refine zk.go (i + 1) ⟨by omega, fun j hj => ?_⟩ (by omega) rfl ⟨rfl, rfl, rfl, rfl, trivial⟩
   by_cases hji : j = i
   ·subst hji; exact h4
   ·exact h3 j (by omega)
 ·refine XOut.int ?_
  simp only [idxR, ve (d := default) fun j hj => h3 j (by omega)]
theorem contf_su (nl : Bool) (xs : List Su) (g : FuncId) (caps : List AV) (p : Su -> Bool) (hl : lowL 0 caps = true) (hx : xs.length <= 100000) (hp : ∀ x ∈ xs, Comp Tryz.prog g (suA x :: caps) (.bool (p x))) :
  Comp Tryz.prog 233 [.sl nl (xs.map suA), .fn g caps] (.bool (xs.any p)) := by
 refine Comp.body (T := tab) (res := [.tmp 4]) zb [] Tryz.func233 rfl (by kernel_rfl) Tryz.ntmps233 rfl (by simp only [List.length_cons, List.length_nil]; decide) (by simp only [lowL, AV.low, yO, hl]; rfl) ?_; conv => whnf
 refine za.ret (idxf_su nl xs g caps p hl hx hp) ?_
 conv => whnf
 refine XOut.bool ?_
 rw [Bool.eq_iff_iff, decide_eq_true_eq]; exact qr
theorem every1_mo (x : Mo) (g : FuncId) (fs : List AV) (p : Mo -> Bool) (hl : lowL 0 fs = true) (hp : Comp Tryz.prog g (fs ++ [moA x]) (.bool (p x))) :
  Comp Tryz.prog 232 [moA x, .pim [.bf g fs]] (.bool (!p x)) := by
 refine Comp.body (T := tab) (res := [.tmp 3]) zb [] Tryz.func232 rfl (by kernel_rfl) Tryz.ntmps232 rfl (by simp only [List.length_cons, List.length_nil]; decide) (by simp only [lowL, AV.low, moL, hl]; rfl) ?_; conv => whnf
 refine za.ret hp ?_
 conv => whnf
 exact XOut.bool rfl
theorem every_mo (nl : Bool) (xs : List Mo) (g : FuncId) (fs : List AV) (p : Mo -> Bool) (hl : lowL 0 fs = true) (hx : xs.length <= 100000) (hp : ∀ x ∈ xs, Comp Tryz.prog g (fs ++ [moA x]) (.bool (p x))) :
  Comp Tryz.prog 145 [.sl nl (xs.map moA), .bf g fs] (.bool (xs.all p)) := by
 refine Comp.body (T := tab) (res := [.tmp 4]) zb [] Tryz.func145 rfl (by kernel_rfl) Tryz.ntmps145 rfl (by simp only [List.length_cons, List.length_nil]; decide) (by simp only [lowL, AV.low, yn, hl]; rfl) ?_; conv => whnf
 refine za.ret (contf_mo nl xs 232 [.pim [.bf g fs]] (fun x => !p x) (by simp only [lowL, AV.low, hl]; rfl) hx fun x hm => every1_mo x g fs p hl (hp x hm)) ?_
 conv => whnf
 refine XOut.bool ?_
 rw [List.not_any_eq_all_not]; simp
theorem every1_su (x : Su) (g : FuncId) (caps : List AV) (p : Su -> Bool) (hl : lowL 0 caps = true) (hp : Comp Tryz.prog g (suA x :: caps) (.bool (p x))) :
  Comp Tryz.prog 234 [suA x, .pim [.fn g caps]] (.bool (!p x)) := by
 refine Comp.body (T := tab) (res := [.tmp 3]) zb [] Tryz.func234 rfl (by kernel_rfl) Tryz.ntmps234 rfl (by simp only [List.length_cons, List.length_nil]; decide) (by simp only [lowL, AV.low, suL, hl]; rfl) ?_; conv => whnf
 refine za.ret hp ?_
 conv => whnf
 exact XOut.bool rfl
theorem zcB (nl : Bool) (xs : List Su) (g : FuncId) (caps : List AV) (p : Su -> Bool) (hl : lowL 0 caps = true) (hx : xs.length <= 100000) (hp : ∀ x ∈ xs, Comp Tryz.prog g (suA x :: caps) (.bool (p x))) :
  Comp Tryz.prog 147 [.sl nl (xs.map suA), .fn g caps] (.bool (xs.all p)) := by
 refine Comp.body (T := tab) (res := [.tmp 4]) zb [] Tryz.func147 rfl (by kernel_rfl) Tryz.ntmps147 rfl (by simp only [List.length_cons, List.length_nil]; decide) (by simp only [lowL, AV.low, yO, hl]; rfl) ?_; conv => whnf
 refine za.ret (contf_su nl xs 234 [.pim [.fn g caps]] (fun x => !p x) (by simp only [lowL, AV.low, hl]; rfl) hx fun x hm => every1_su x g caps p hl (hp x hm)) ?_
 conv => whnf
 refine XOut.bool ?_
 rw [List.not_any_eq_all_not]; simp
def suR1 (b : Bd) (s : Su) : Bool := yo s.lo s.hi 0 b.room
def suR2 (b : Bd) (s : Su) : Bool := inZ s.m 0 b.months.length
theorem check1_c (b : Bd) (s : Su) : Comp Tryz.prog 148 [suA s, .pim (bedC b)] (.bool (suR1 b s)) := by
 refine Comp.body (T := tab) (res := [.tmp 3]) zb [] Tryz.func148 rfl (by kernel_rfl) Tryz.ntmps148 rfl (by simp only [List.length_cons, List.length_nil]; decide) (by simp only [lowL, suL, AV.low, zY]; rfl) ?_; conv => whnf
 repeat' ((refine za.ret (zcy _ _ _ _) ?_); conv => whnf)
 all_goals exact XOut.bool rfl
theorem check2_c (b : Bd) (s : Su) (h : b.months.length <= 100000) : Comp Tryz.prog 150 [suA s, .pim (bedC b)] (.bool (suR2 b s)) := by
 refine Comp.body (T := tab) (res := [.tmp 3]) zb [] Tryz.func150 rfl (by kernel_rfl) Tryz.ntmps150 rfl (by simp only [List.length_cons, List.length_nil]; decide) (by simp only [lowL, suL, AV.low, zY]; rfl) ?_; conv => whnf
 repeat' ((refine za.ret (y8 _ _ _) ?_); conv => whnf)
 all_goals exact XOut.bool (by unfold suR2; rw [List.length_map])
def bedE (b : Bd) : Int :=
 if inZ b.room 1 120 = false then 3
 else if inZ b.months.length 1 10 = false \/ (8 : Int) < b.surveys.length then 2
 else if inZ b.first 0 b.room = false \/ inZ b.unsure 0 40 = false \/ b.months.all (moR b) = false then 3
 else if b.surveys.all (suR1 b) = false then 3
 else if b.surveys.all (suR2 b) = false then 1
 else 0
theorem ki (b : Bd) (h1 : b.months.length <= 100000) (h2 : b.surveys.length <= 100000) : Comp Tryz.prog 26 [bedA b] (.int .i64 (bedE b)) := by
 have e1 : ((b.months.map moA).length : Int) = b.months.length := by rw [List.length_map]
 have e2 : ((b.surveys.map suA).length : Int) = b.surveys.length := by rw [List.length_map]
 have hm := every_mo b.nlm b.months 146 [bedA b] (moR b) (by simp only [lowL, bedL]; rfl) h1 fun x _ => zdK b x
 have hs1 := zcB b.nls b.surveys 148 [.pim (bedC b)] (suR1 b) (by simp only [lowL, AV.low, zY]; rfl) h2 fun x _ => check1_c b x
 have hs2 := zcB b.nls b.surveys 150 [.pim (bedC b)] (suR2 b) (by simp only [lowL, AV.low, zY]; rfl) h2 fun x _ => check2_c b x h1
 have hE : bedE b = if inZ b.room 1 120 = false then 3 else if inZ ((b.months.map moA).length : Int) 1 10 = false \/ (8 : Int) < b.surveys.length then 2 else if inZ b.first 0 b.room = false \/ inZ b.unsure 0 40 = false \/ b.months.all (moR b) = false then 3 else if b.surveys.all (suR1 b) = false then 3 else if b.surveys.all (suR2 b) = false then 1 else 0 := by rw [e1]; rfl
 rw [hE]
 generalize b.months.all (moR b) = r1 at hm
 generalize b.surveys.all (suR1 b) = r2 at hs1
 generalize b.surveys.all (suR2 b) = r3 at hs2
 refine Comp.body (T := tab) (res := [.tmp 2]) zb [] Tryz.func26 rfl (by kernel_rfl) Tryz.ntmps26 rfl (by simp only [List.length_cons, List.length_nil]; decide) (by simp only [lowL, bedL]; rfl) ?_; conv => whnf
 repeat' first | ((with_reducible first | apply XBr.tt | apply XBr.ff); conv => whnf) | with_reducible apply XBr.not | ((with_reducible apply XBr.dec) <;> (intro h; first | (exfalso; omega) | ((try simp only [List.length_map] at h); first | (exfalso; omega) | (conv => whnf)))) | ((first | refine za.ret (y8 _ _ _) ?_ | refine za.ret (zS b _) ?_ | refine za.ret hm ?_ | refine za.ret hs1 ?_ | refine za.ret hs2 ?_); conv => whnf) | ((with_reducible refine XBr.mk' (fun h => ?_) fun h => ?_) <;> conv => whnf) | fail
 all_goals refine XOut.int ?_
 all_goals clear hE hm hs1 hs2 e1 e2
 all_goals simp [*, -List.length_map]
def chA (sp st : Int) : AV := .agg [.int .i64 sp, .int .i64 st]
def zJ (room g a sp st : Int) : Int := max 0 (min room (a + a * g / 100 + sp) - st)
theorem ku {room g a sp st : Int} (h : 0 <= room) (h2 : 0 <= st) : 0 <= zJ room g a sp st /\ zJ room g a sp st <= room := by
 unfold zJ; omega
theorem y9 (b : Bd) (k : Nat) (a sp st : Int) (hk : k < b.months.length) (h1 : 0 <= a) (h2 : a <= 1000) (h3 : 0 <= (b.months.getD k default).g) (h4 : (b.months.getD k default).g <= 100) (h5 : 0 <= b.room) (h6 : b.room <= 1000) (h7 : 0 <= sp) (h8 : sp <= 1000) (h9 : 0 <= st) (h10 : st <= 1000) :
  Comp Tryz.prog 106 [bedA b, natA k, .int .i64 a, chA sp st] (.int .i64 (zJ b.room (b.months.getD k default).g a sp st)) := by
 have e1 : ((b.months.map moA).length : Int) = b.months.length := by rw [List.length_map]
 have q1 : 0 <= a * (b.months.getD k default).g := Int.mul_nonneg h1 h3
 have q2 : a * (b.months.getD k default).g <= 1000 * 100 := Int.mul_le_mul h2 h4 h3 (by omega)
 have q3 : (a * (b.months.getD k default).g).tdiv 100 = (a * (b.months.getD k default).g) / 100 := Int.tdiv_eq_ediv_of_nonneg q1
 have hg := yX 0 false [min b.room (a + a * (b.months.getD k default).g / 100 + sp) - st] (by simp)
 refine Comp.body (T := tab) (res := [.tmp 8]) zb [] Tryz.func106 rfl (by kernel_rfl) Tryz.ntmps106 rfl (by simp only [List.length_cons, List.length_nil]; decide) (by simp only [lowL, bedL, AV.low]; rfl) ?_; conv => whnf
 apply Walk.drawX zb zg [] [] (hsK _) [_, _, _, _, _, _, _, _, _, _, _, .int .i64 (a * (b.months.getD k default).g / 100), _, _, _, _, _, _, _, _, _, _, _] (by kernel_rfl) rfl
 ·skip
  repeat' first | ((first | (with_reducible first | refine XInt.a ?_ | apply Chk.go | apply ChkA.go) | (first | refine zh.a ?_ | refine XIx.a ?_)); conv => whnf) | (with_reducible first | apply XAnd.mk | exact trivial) | (exact zd.mk rfl rfl) | ((refine za.ret hg ?_); conv => whnf) | ((refine zd.mk (by rw [q3]) rfl)) | fail
 ·skip
  repeat' first | ((with_reducible first | apply ChkF.go | apply ChkB.go); conv => whnf) | (with_reducible first | apply XAnd.mk | exact trivial) | fail
 conv => whnf
 skip
 all_goals exact XOut.int rfl
theorem jj (m : Mo) : Comp Tryz.prog 107 [moA m] (chA m.pl m.th) := by
 refine Comp.body (T := tab) (res := [.cell 2 68]) zb [] Tryz.func107 rfl (by kernel_rfl) Tryz.ntmps107 rfl (by simp only [List.length_cons, List.length_nil]; decide) (by rfl) ?_; conv => whnf
 skip
 exact ⟨.low rfl⟩
def zn (b : Bd) : Int := max 0 (b.first - b.unsure)
theorem zbA (b : Bd) (h1 : 0 <= b.first) (h2 : b.first <= 1000) (h3 : 0 <= b.unsure) (h4 : b.unsure <= 1000) : Comp Tryz.prog 109 [bedA b] (.int .i64 (zn b)) := by
 have hg := yX 0 false [b.first - b.unsure] (by simp)
 refine Comp.body (T := tab) (res := [.tmp 2]) zb [] Tryz.func109 rfl (by kernel_rfl) Tryz.ntmps109 rfl (by simp only [List.length_cons, List.length_nil]; decide) (by simp only [lowL, bedL]; rfl) ?_; conv => whnf
 repeat' first | ((first | (with_reducible refine XInt.a ?_) | (first | refine zh.a ?_ | refine za.ret hg ?_)); conv => whnf) | fail
 all_goals exact XOut.int rfl
def arrA (r : List Int) : AV := .agg (ints r)
def putC (rows : List (List Int)) (e i : Nat) (v : Int) : List (List Int) := rows.set e ((rows.getD e default).set i v)
structure jW (rows : List (List Int)) (n w : Nat) : Prop where
 n : rows.length = n
 w : ∀ r ∈ rows, r.length = w
theorem jW.at {rows : List (List Int)} {n w : Nat} (o : jW rows n w) {e : Nat} (he : e < n) : (rows.getD e default).length = w := o.w _ (zB (by rw [o.n]; exact he))
theorem jW.put {rows : List (List Int)} {n w : Nat} (o : jW rows n w) (e i : Nat) (v : Int) (he : e < n) : jW (putC rows e i v) n w := by
 refine ⟨by unfold putC; rw [List.length_set]; exact o.n, fun r hr => ?_⟩
 unfold putC at hr
 rcases List.mem_or_eq_of_mem_set hr with h | rfl
 ·exact o.w r h
 ·rw [List.length_set]; exact o.at he
def jZ (rows : List (List Int)) (e i : Nat) : Int := (rows.getD e default).getD i default
theorem wo {rows : List (List Int)} {n w : Nat} (o : jW rows n w) {e i : Nat} (v : Int) (he : e < n) (hi : i < w) (e' i' : Nat) : jZ (putC rows e i v) e' i' = if e' = e /\ i' = i then v else jZ rows e' i' := by
 unfold jZ putC
 have hr := o.at he
 by_cases h1 : e' = e
 ·subst h1
  rw [List.getD_eq_getElem?_getD (l := rows.set _ _), List.getElem?_set_self (by rw [o.n]; exact he), Option.getD_some]
  by_cases h2 : i' = i
  ·subst h2
   rw [if_pos ⟨rfl, rfl⟩, List.getD_eq_getElem?_getD, List.getElem?_set_self (by rw [hr]; exact hi)]; rfl
  ·rw [if_neg (fun h => h2 h.2), List.getD_eq_getElem?_getD, List.getElem?_set_ne (fun h => h2 h.symm), <- List.getD_eq_getElem?_getD]
 ·rw [if_neg (fun h => h1 h.1), List.getD_eq_getElem?_getD (l := rows.set _ _), List.getElem?_set_ne (fun h => h1 h.symm), <- List.getD_eq_getElem?_getD]
theorem jt {xs : List Int} {o : Nat} {k : List AV -> Prop} (i : Nat) (ho : o = i) (hi : i < xs.length) (h : k (.int .i64 (xs.getD i default) :: (ints xs).drop (i + 1))) : xdrop o (ints xs) k := by
 subst ho
 refine zcP _ ?_ h
 rw [List.getElem?_map, List.getElem?_eq_getElem hi, List.getD_eq_getElem?_getD, List.getElem?_eq_getElem hi]; rfl
theorem yA {o : Nat} {A : Unit -> Prop} {B : Nat -> Bool -> Prop} (h : B o false) : xStore.match_1 (fun _ _ => Prop) o false A B := by
 cases o <;> exact h
theorem zN.rows {els : List AV} {n e' o w : Nat} {v : Int} {k : List AV -> Prop} (rows : List (List Int)) (e i : Nat) (he : e = e') (hE : els = rows.map arrA) (h1 : n = rows.length) (h2 : e < n) (hw : (rows.getD e default).length = w) (ho : o = i) (hi : i < w)
  (h : k ((putC rows e i v).map arrA)) : zN els n e' o w [.int .i64 v] k := by
 subst he; subst hE; subst ho
 have hg : (rows.map arrA).getD e default = arrA (rows.getD e default) := by
  rw [List.getD_eq_getElem?_getD, List.getElem?_map, List.getD_eq_getElem?_getD, List.getElem?_eq_getElem (by omega)]; rfl
 refine ⟨by rw [List.length_map]; exact h1, h2, by simp; omega, by rw [hg]; rfl, ?_⟩
 rw [hg]
 show k ((rows.map arrA).set e (.agg (splice (ints (rows.getD e default)) o [.int .i64 v])))
 have : splice (ints (rows.getD e default)) o [.int .i64 v] = ints ((rows.getD e default).set o v) := by
  rw [ints, ints, List.map_set]
  have hl : o < ((rows.getD e default).map (AV.int .i64)).length := by rw [List.length_map]; omega
  rw [List.set_eq_take_append_cons_drop, if_pos hl]
  simp [splice]
 rw [this]
 unfold putC at h
 rw [List.map_set] at h
 exact h
structure BedOk (b : Bd) : Prop where
 r1 : 1 <= b.room
 r2 : b.room <= 120
 m1 : 1 <= b.months.length
 m2 : b.months.length <= 10
 f1 : 0 <= b.first
 f2 : b.first <= b.room
 u1 : 0 <= b.unsure
 u2 : b.unsure <= 40
 mo : ∀ m ∈ b.months, 0 <= m.g /\ m.g <= 100 /\ 0 <= m.r /\ m.r <= b.room /\ 0 <= m.pl /\ m.pl <= m.ph /\ m.ph <= 60 /\ 0 <= m.tl /\ m.tl <= m.th /\ m.th <= 60
def lieR (b : Bd) (j n : Nat) : Int := zJ b.room (b.months.getD j default).g n (b.months.getD j default).pl (b.months.getD j default).th
theorem yp {b : Bd} (o : BedOk b) {j n : Nat} (hj : j < b.months.length) : 0 <= lieR b j n /\ lieR b j n <= b.room := by
 have hm := o.mo _ (zB (d := default) hj)
 have := o.r1
 exact ku (by omega) (by omega)
def yW (nx : Nat -> Int) (lies : Nat) : Nat -> Int
 | 0 => -1
 | r + 1 => if nx (lies - r) = -1 then yW nx lies r else max (yW nx lies r) (r + nx (lies - r))
def valM (b : Bd) (share : Int) : Nat -> Nat -> Int
 | 0, q => if share <= q then 0 else -1
 | k + 1, q => yW (valM b share k) (lieR b (b.months.length - (k + 1)) q).toNat ((lieR b (b.months.length - (k + 1)) q).toNat + 1)
theorem zb0 {nx : Nat -> Int} {lies c : Nat} (h : ∀ q, q <= lies -> -1 <= nx q /\ nx q <= c) : ∀ r, r <= lies + 1 -> -1 <= yW nx lies r /\ yW nx lies r <= c + lies
 | 0, _ => by simp only [yW]; omega
 | r + 1, hr => by
   have ih := zb0 h r (by omega)
   have := h (lies - r) (by omega)
   unfold yW
   split <;> omega
theorem zai {b : Bd} (o : BedOk b) (share : Int) : ∀ k, k <= b.months.length -> ∀ q, -1 <= valM b share k q /\ valM b share k q <= 120 * k
 | 0, _, q => by unfold valM; split <;> omega
 | k + 1, hk, q => by
   have hl := yp o (j := b.months.length - (k + 1)) (n := q) (by have := o.m1; omega)
   have := o.r2
   have := zb0 (nx := valM b share k) (lies := (lieR b (b.months.length - (k + 1)) q).toNat) (c := 120 * k) (fun q _ => zai o share k (by omega) q) _ (Nat.le_refl _)
   unfold valM
   omega
def kH (nx : Nat -> Int) (lies : Nat) (v : Int) (r : Nat) : Bool := nx (lies - r) != -1 && ((r : Int) + nx (lies - r) == v)
def zV (b : Bd) (share : Int) : Nat -> Nat -> List Int
 | 0, _ => []
 | k + 1, a => match (List.range ((lieR b (b.months.length - (k + 1)) a).toNat + 1)).find? (kH (valM b share k) (lieR b (b.months.length - (k + 1)) a).toNat (valM b share (k + 1) a)) with
   | some r => (r : Int) :: zV b share k ((lieR b (b.months.length - (k + 1)) a).toNat - r)
   | none => zV b share k a
theorem fq {b : Bd} {share : Int} {k a lies r : Nat} (hl : lieR b (b.months.length - (k + 1)) a = lies) (hr : r <= lies) (h : kH (valM b share k) lies (valM b share (k + 1) a) r = true) (h2 : ∀ q, q < r -> kH (valM b share k) lies (valM b share (k + 1) a) q = false) :
  zV b share (k + 1) a = (r : Int) :: zV b share k (lies - r) := by
 have : (List.range (lies + 1)).find? (kH (valM b share k) lies (valM b share (k + 1) a)) = some r := List.find?_range_eq_some.2 ⟨h, List.mem_range.2 (by omega), fun j hj => by rw [h2 j hj]; rfl⟩
 show (match (List.range ((lieR b (b.months.length - (k + 1)) a).toNat + 1)).find? (kH (valM b share k) (lieR b (b.months.length - (k + 1)) a).toNat (valM b share (k + 1) a)) with | some r => (r : Int) :: zV b share k ((lieR b (b.months.length - (k + 1)) a).toNat - r) | none => zV b share k a) = _
 rw [hl, Int.toNat_natCast, this]
theorem zdH {b : Bd} {share : Int} {k a lies : Nat} (hl : lieR b (b.months.length - (k + 1)) a = lies) (h2 : ∀ q, q < lies + 1 -> kH (valM b share k) lies (valM b share (k + 1) a) q = false) :
  zV b share (k + 1) a = zV b share k a := by
 have : (List.range (lies + 1)).find? (kH (valM b share k) lies (valM b share (k + 1) a)) = none := List.find?_range_eq_none.2 fun j hj => by rw [h2 j hj]; rfl
 show (match (List.range ((lieR b (b.months.length - (k + 1)) a).toNat + 1)).find? (kH (valM b share k) (lieR b (b.months.length - (k + 1)) a).toNat (valM b share (k + 1) a)) with | some r => (r : Int) :: zV b share k ((lieR b (b.months.length - (k + 1)) a).toNat - r) | none => zV b share k a) = _
 rw [hl, Int.toNat_natCast, this]
def zaj (b : Bd) (share : Int) : AV := if valM b share b.months.length (zn b).toNat = -1 then .tup [.sl true [], .int .i64 6] else .tup [slA (zV b share b.months.length (zn b).toNat), .int .i64 0]
end GA
end
section
namespace GA
open Go Go.RowKit Go.ChangeShapes Go.WideShapes Go.ChangeAt Go.Proofs Go.Proofs.YtdnakedcckkoaaaGreat
section
variable {P : Program} {w : World} {r : Reach} {base : Nat} {t : TypeId} {v : Value}
end
theorem ownK : ownKnob Tryz.prog.godebug = none := by kernel_rfl
end GA
end
section
namespace GA
open Go Go.RowKit Go.Proofs
def rowS (b : Bd) (j : Nat) (k : Nat) : List Int := ((List.range j).filter fun i => (b.surveys.getD i default).m == (k : Int)).map fun i : Nat => (i : Int)
theorem kX (b : Bd) (j k : Nat) : rowS b (j + 1) k = if (b.surveys.getD j default).m = (k : Int) then rowS b j k ++ [(j : Int)] else rowS b j k := by
 unfold rowS
 rw [List.range_succ, List.filter_append, List.map_append]
 by_cases h : (b.surveys.getD j default).m = (k : Int)
 ·have hb : ((b.surveys.getD j default).m == (k : Int)) = true := by rw [h]; exact beq_self_eq_true _
  rw [if_pos h, List.filter_cons, if_pos hb]; rfl
 ·have hb : ((b.surveys.getD j default).m == (k : Int)) = false := beq_eq_false_iff_ne.2 h
  rw [if_neg h, List.filter_cons, if_neg (by rw [hb]; simp)]; exact List.append_nil _
def esS (b : Bd) : Nat -> List (Int × AV)
 | 0 => []
 | j + 1 => mput (b.surveys.getD j default).m (.gr (2 + (b.surveys.getD j default).m.toNat) (rowS b (j + 1) (b.surveys.getD j default).m.toNat).length) (esS b j)
theorem qV (n m : Int) (v : AV) : ∀ es : List (Int × AV), mget m (mput n v es) = if m = n then some v else mget m es
 | [] => by
   show (if n = m then some v else mget m []) = _
   by_cases h : m = n
   ·rw [if_pos h.symm, if_pos h]
   ·rw [if_neg (fun e => h e.symm), if_neg h]
 | (q, u) :: l => by
   have ih := qV n m v l
   show mget m (if q = n then (q, v) :: l else (q, u) :: mput n v l) = _
   by_cases h1 : q = n
   ·rw [if_pos h1]
    show (if q = m then some v else mget m l) = if m = n then some v else (if q = m then some u else mget m l)
    subst h1
    by_cases h2 : q = m
    ·rw [if_pos h2, if_pos h2.symm]
    ·rw [if_neg h2, if_neg (fun e => h2 e.symm), if_neg h2]
   ·rw [if_neg h1]
    show (if q = m then some u else mget m (mput n v l)) = if m = n then some v else (if q = m then some u else mget m l)
    by_cases h2 : q = m
    ·rw [if_pos h2, if_pos h2, if_neg (fun e => h1 (h2.trans e))]
    ·rw [if_neg h2, if_neg h2, ih]
theorem zbB (b : Bd) (hm : ∀ s ∈ b.surveys, 0 <= s.m) : ∀ j, j <= b.surveys.length -> ∀ k : Nat, mget (k : Int) (esS b j) = if (rowS b j k).isEmpty = true then none else some (.gr (2 + k) (rowS b j k).length)
 | 0, _, k => rfl
 | j + 1, hj, k => by
   have h0 := hm _ (zB (xs := b.surveys) (i := j) (d := default) (by omega))
   show mget (k : Int) (mput _ _ (esS b j)) = _
   rw [qV, zbB b hm j (by omega) k]
   have hr := kX b j k
   generalize hmm : (b.surveys.getD j default).m = m at h0 hr
   by_cases h : (k : Int) = m
   ·have e : m.toNat = k := by omega
    rw [if_pos h, e, hr, if_pos h.symm, if_neg (by simp)]
   ·rw [if_neg (fun e => h e.symm)] at hr
    rw [if_neg h, hr]
theorem yP.rowI {H : List Blk} {es : List (Int × AV)} {n : Int} {k : AV -> Prop} (i : Nat) {te : TypeId} {xs : List Int} (hi : lget H i = some (.grow te xs.isEmpty (ints xs))) (he : mget n es = if xs.isEmpty = true then none else some (.gr i xs.length)) (h : k (.gr i xs.length)) : yP H (.sl true []) false n es k := by
 refine yP.row i hi (by cases xs <;> rfl) ?_ ?_
 ·rw [he]; cases xs <;> simp
 ·rw [List.length_map]; exact h
theorem fI {n : Nat} (q : Int) (v : AV) (hv : v.low n = true) : ∀ es : List (Int × AV), lowL n (es.map (·.2)) = true -> lowL n ((mput q v es).map (·.2)) = true
 | [], _ => by show (v.low n && true) = true; rw [hv]; rfl
 | (m, u) :: l, h => by
   have h' : (u.low n && lowL n (l.map (·.2))) = true := h
   rw [Bool.and_eq_true] at h'
   show lowL n ((if m = q then (m, v) :: l else (m, u) :: mput q v l).map (·.2)) = true
   split
   ·show (v.low n && lowL n (l.map (·.2))) = true; rw [hv, h'.2]; rfl
   ·show (u.low n && lowL n ((mput q v l).map (·.2))) = true; rw [h'.1, fI q v hv l h'.2]; rfl
theorem zbP (b : Bd) (hm : ∀ s ∈ b.surveys, 0 <= s.m /\ s.m <= 10) : ∀ j, j <= b.surveys.length -> lowL 13 ((esS b j).map (·.2)) = true
 | 0, _ => rfl
 | j + 1, hj => by
   have h0 := hm _ (zB (xs := b.surveys) (i := j) (d := default) (by omega))
   refine fI _ _ ?_ _ (zbP b hm j (by omega))
   simp only [AV.low, decide_eq_true_eq]; omega
def rowB (b : Bd) (j k : Nat) : Blk := .grow 3 (rowS b j k).isEmpty (ints (rowS b j k))
theorem zi {b : Bd} {j q : Nat} (h : (b.surveys.getD j default).m ≠ (q : Int)) : rowB b (j + 1) q = rowB b j q := by unfold rowB; rw [kX, if_neg h]
theorem yE {b : Bd} {j q : Nat} (h : (b.surveys.getD j default).m = (q : Int)) : rowB b (j + 1) q = .grow 3 ((rowS b j q).isEmpty && false) (ints (rowS b j q) ++ [natA j]) := by
 unfold rowB; rw [kX, if_pos h, zD, ints, List.map_append]; rfl
theorem zcG {b : Bd} {j q : Nat} (h : (b.surveys.getD j default).m = (q : Int)) : (rowS b (j + 1) q).length = (rowS b j q).length + 1 := by
 rw [kX, if_pos h, List.length_append]; rfl
def dskS (b : Bd) : List Blk := [.map (esS b b.surveys.length), .cells (bedC b ++ [.mp 0]), rowB b b.surveys.length 0, rowB b b.surveys.length 1, rowB b b.surveys.length 2, rowB b b.surveys.length 3, rowB b b.surveys.length 4, rowB b b.surveys.length 5, rowB b b.surveys.length 6, rowB b b.surveys.length 7, rowB b b.surveys.length 8, rowB b b.surveys.length 9, rowB b b.surveys.length 10]
theorem ft (b : Bd) (hm : ∀ s ∈ b.surveys, 0 <= s.m /\ s.m <= 10) : ∀ x ∈ dskS b, x.low 13 = true := fun x hx => by
 simp only [dskS, List.mem_cons, List.not_mem_nil, or_false] at hx
 rcases hx with rfl | rfl | rfl | rfl | rfl | rfl | rfl | rfl | rfl | rfl | rfl | rfl | rfl
 ·exact zbP b hm _ (Nat.le_refl _)
 ·simp only [Blk.low, bedC, List.cons_append, List.nil_append, lowL, AV.low, yn, yO]; rfl
 all_goals exact lowI _
theorem SelR.id {f : Nat -> Nat} {H : List Blk} {n : Nat} (hf : ∀ i, i < n -> f i = i) : ∀ (l : List Blk) (i : Nat), i + l.length = n -> (∀ x ∈ l, x.low n = true) -> (∀ (j : Nat) x, l[j]? = some x -> lget H (i + j) = some x) -> SelR f H i l
 | [], _, _, _, _ => trivial
 | x :: l, i, hl, lo, hg => by
   simp only [List.length_cons] at hl
   refine ⟨?_, SelR.id hf l (i + 1) (by omega) (fun y hy => lo y (List.mem_cons_of_mem _ hy)) fun j y e => ?_⟩
   ·rw [hf i (by omega), Blk.ren_low hf (lo x List.mem_cons_self)]; exact hg 0 x rfl
   ·have := hg (j + 1) y (by simpa using e)
    rwa [show i + (j + 1) = i + 1 + j by omega] at this
set_option maxHeartbeats 4000000 in
theorem vQ (b : Bd) (hE : bedE b = 0) (h1 : b.months.length <= 10) (h2 : b.surveys.length <= 8) (hm : ∀ s ∈ b.surveys, 0 <= s.m /\ s.m <= 10) : yz Tryz.prog 208 [bedA b] (.tup [.ptr 1 0, .int .i64 0]) (dskS b) := by
 have hc := ki b (by omega) (by omega)
 rw [hE] at hc
 have e2 : ((b.surveys.map suA).length : Int) = b.surveys.length := by rw [List.length_map]
 refine yz.body (T := tab) (res := [.tmp 2, .tmp 3]) zb [16] Tryz.func208 rfl (by kernel_rfl) Tryz.ntmps208 rfl (by simp only [List.length_cons, List.length_nil]; decide) (by simp only [lowL, bedL]; rfl) rfl (ft b hm) ?_; conv => whnf
 repeat' first | ((with_reducible first | refine XBr.y2 fun h => ?_ | refine XBr.n2 fun h => ?_ | refine XBr.bne (fun h => ?_) fun h => ?_) <;> conv => whnf) | ((refine za.ret hc ?_); conv => whnf) | fail
 iterate 11 refine Walk.nilrow 3 ?_
 refine Walk.loopG zb [] (fun j : Nat => j <= b.surveys.length) (fun j => [(2, .nilp), (3, .int .i64 0), (5, .ptr 1 0), (18, .sl b.nls (b.surveys.map suA)), (19, .int .i64 b.surveys.length), (20, natA j)])
  (fun j => [.map (esS b j), .cells (bedC b ++ [.mp 0]), rowB b j 0, rowB b j 1, rowB b j 2, rowB b j 3, rowB b j 4, rowB b j 5, rowB b j 6, rowB b j 7, rowB b j 8, rowB b j 9, rowB b j 10]) (fun j => b.surveys.length - j) 0 (Nat.zero_le _) rfl ⟨rfl, rfl, rfl, rfl, congrArg (fun z => some (AV.int .i64 z)) e2, rfl, trivial⟩ ?_ ?_ ?_
 ·intro j hj
  refine ⟨fun x hx => ?_, fun p hp => ?_⟩
  ·simp only [List.mem_cons, List.not_mem_nil, or_false] at hx
   rcases hx with rfl | rfl | rfl | rfl | rfl | rfl | rfl | rfl | rfl | rfl | rfl | rfl | rfl
   ·exact zbP b hm j hj
   ·simp only [Blk.low, bedC, List.cons_append, List.nil_append, lowL, AV.low, yn, yO]; rfl
   all_goals exact lowI _
  ·simp only [List.mem_cons, List.not_mem_nil, or_false] at hp
   rcases hp with rfl | rfl | rfl | rfl | rfl | rfl <;> first | rfl | exact yO _
 ·intro j _; exact (show (13 : Nat) <= 13 from Nat.le_refl 13)
 intro j hj
 conv => whnf
 repeat' first | ((with_reducible first | refine XBr.y fun h => ?_ | refine XBr.n fun h => ?_ | refine XBr.dec (fun h => ?_) fun h => ?_) <;> conv => whnf) | (refine XIx.a ?_; conv => whnf) | fail
 ·have hsv := hm _ (zB (xs := b.surveys) (i := j) (d := default) (by omega))
  have hg := zbB b (fun s h => (hm s h).1) j (by omega)
  have hes : esS b (j + 1) = mput (b.surveys.getD j default).m (.gr (2 + (b.surveys.getD j default).m.toNat) (rowS b (j + 1) (b.surveys.getD j default).m.toNat).length) (esS b j) := rfl
  have hrl : ∀ k, (rowS b j k).length <= j := fun k => by unfold rowS; rw [List.length_map]; exact Nat.le_trans (List.length_filter_le _ _) (by simp)
  obtain ⟨k, hk10, hkm⟩ : ∃ k : Nat, k <= 10 /\ (b.surveys.getD j default).m = k := ⟨(b.surveys.getD j default).m.toNat, by omega, by omega⟩
  rw [hkm] at hes ⊢
  rw [Int.toNat_natCast, zcG hkm] at hes
  have hkk : k = 0 \/ k = 1 \/ k = 2 \/ k = 3 \/ k = 4 \/ k = 5 \/ k = 6 \/ k = 7 \/ k = 8 \/ k = 9 \/ k = 10 := by omega
  rcases hkk with rfl | rfl | rfl | rfl | rfl | rfl | rfl | rfl | rfl | rfl | rfl
  ·have hl := hrl 0
   have hgk := hg 0
   apply Walk.drawX zb zg [] [15, 16] (hsV _ [id, fun H => H.set 2 (.grow 3 ((rowS b j 0).isEmpty && false) (ints (rowS b j 0) ++ [natA j])), fun H => (H.set 2 (.grow 3 ((rowS b j 0).isEmpty && false) (ints (rowS b j 0) ++ [natA j]))).set 0 (.map (mput 0 (.gr 2 ((rowS b j 0).length + 1)) (esS b j)))]) [_, _, _, _, _, _, _, _, _, _, _, _, .gr 2 (rowS b j 0).length, _, _, .gr 2 ((rowS b j 0).length + 1), _] (by kernel_rfl) rfl
   ·skip
    repeat' first | ((with_reducible first | apply Chk.go | apply ChkA.go); conv => whnf) | (refine zh.a ?_; conv => whnf) | (with_reducible first | apply XAnd.mk | exact trivial) | (exact zd.mk rfl rfl) | ((refine yP.rowI (te := 3) (xs := rowS b j 0) 2 rfl hgk ?_); conv => whnf) | fail
   ·skip
    repeat' first | ((with_reducible first | apply Chk.go | apply ChkF.go | apply ChkB.go); conv => whnf) | (with_reducible first | apply XAnd.mk | exact trivial) | (exact zd.mk rfl rfl) | fail
   conv => whnf
   repeat' ((with_reducible refine XInt.a ?_); conv => whnf)
   refine zp.go (j + 1) [.cells [.int .i64 0, .int .i64 (b.surveys.getD j default).lo, .int .i64 (b.surveys.getD j default).hi]] (show j + 1 <= b.surveys.length by omega) (show b.surveys.length - (j + 1) < b.surveys.length - j by omega) ?_ ⟨rfl, rfl, rfl, rfl, rfl, rfl, trivial⟩
   rw [hes, yE hkm, zi (q := 1) (by rw [hkm]; decide), zi (q := 2) (by rw [hkm]; decide), zi (q := 3) (by rw [hkm]; decide), zi (q := 4) (by rw [hkm]; decide), zi (q := 5) (by rw [hkm]; decide), zi (q := 6) (by rw [hkm]; decide), zi (q := 7) (by rw [hkm]; decide), zi (q := 8) (by rw [hkm]; decide), zi (q := 9) (by rw [hkm]; decide), zi (q := 10) (by rw [hkm]; decide)]
   rfl
  ·have hl := hrl 1
   have hgk := hg 1
   apply Walk.drawX zb zg [] [15, 16] (hsV _ [id, fun H => H.set 3 (.grow 3 ((rowS b j 1).isEmpty && false) (ints (rowS b j 1) ++ [natA j])), fun H => (H.set 3 (.grow 3 ((rowS b j 1).isEmpty && false) (ints (rowS b j 1) ++ [natA j]))).set 0 (.map (mput 1 (.gr 3 ((rowS b j 1).length + 1)) (esS b j)))]) [_, _, _, _, _, _, _, _, _, _, _, _, .gr 3 (rowS b j 1).length, _, _, .gr 3 ((rowS b j 1).length + 1), _] (by kernel_rfl) rfl
   ·skip
    repeat' first | ((with_reducible first | apply Chk.go | apply ChkA.go); conv => whnf) | (refine zh.a ?_; conv => whnf) | (with_reducible first | apply XAnd.mk | exact trivial) | (exact zd.mk rfl rfl) | ((refine yP.rowI (te := 3) (xs := rowS b j 1) 3 rfl hgk ?_); conv => whnf) | fail
   ·skip
    repeat' first | ((with_reducible first | apply Chk.go | apply ChkF.go | apply ChkB.go); conv => whnf) | (with_reducible first | apply XAnd.mk | exact trivial) | (exact zd.mk rfl rfl) | fail
   conv => whnf
   repeat' ((with_reducible refine XInt.a ?_); conv => whnf)
   refine zp.go (j + 1) [.cells [.int .i64 1, .int .i64 (b.surveys.getD j default).lo, .int .i64 (b.surveys.getD j default).hi]] (show j + 1 <= b.surveys.length by omega) (show b.surveys.length - (j + 1) < b.surveys.length - j by omega) ?_ ⟨rfl, rfl, rfl, rfl, rfl, rfl, trivial⟩
   rw [hes, zi (q := 0) (by rw [hkm]; decide), yE hkm, zi (q := 2) (by rw [hkm]; decide), zi (q := 3) (by rw [hkm]; decide), zi (q := 4) (by rw [hkm]; decide), zi (q := 5) (by rw [hkm]; decide), zi (q := 6) (by rw [hkm]; decide), zi (q := 7) (by rw [hkm]; decide), zi (q := 8) (by rw [hkm]; decide), zi (q := 9) (by rw [hkm]; decide), zi (q := 10) (by rw [hkm]; decide)]
   rfl
  ·have hl := hrl 2
   have hgk := hg 2
   apply Walk.drawX zb zg [] [15, 16] (hsV _ [id, fun H => H.set 4 (.grow 3 ((rowS b j 2).isEmpty && false) (ints (rowS b j 2) ++ [natA j])), fun H => (H.set 4 (.grow 3 ((rowS b j 2).isEmpty && false) (ints (rowS b j 2) ++ [natA j]))).set 0 (.map (mput 2 (.gr 4 ((rowS b j 2).length + 1)) (esS b j)))]) [_, _, _, _, _, _, _, _, _, _, _, _, .gr 4 (rowS b j 2).length, _, _, .gr 4 ((rowS b j 2).length + 1), _] (by kernel_rfl) rfl
   ·skip
    repeat' first | ((with_reducible first | apply Chk.go | apply ChkA.go); conv => whnf) | (refine zh.a ?_; conv => whnf) | (with_reducible first | apply XAnd.mk | exact trivial) | (exact zd.mk rfl rfl) | ((refine yP.rowI (te := 3) (xs := rowS b j 2) 4 rfl hgk ?_); conv => whnf) | fail
   ·skip
    repeat' first | ((with_reducible first | apply Chk.go | apply ChkF.go | apply ChkB.go); conv => whnf) | (with_reducible first | apply XAnd.mk | exact trivial) | (exact zd.mk rfl rfl) | fail
   conv => whnf
   repeat' ((with_reducible refine XInt.a ?_); conv => whnf)
   refine zp.go (j + 1) [.cells [.int .i64 2, .int .i64 (b.surveys.getD j default).lo, .int .i64 (b.surveys.getD j default).hi]] (show j + 1 <= b.surveys.length by omega) (show b.surveys.length - (j + 1) < b.surveys.length - j by omega) ?_ ⟨rfl, rfl, rfl, rfl, rfl, rfl, trivial⟩
   rw [hes, zi (q := 0) (by rw [hkm]; decide), zi (q := 1) (by rw [hkm]; decide), yE hkm, zi (q := 3) (by rw [hkm]; decide), zi (q := 4) (by rw [hkm]; decide), zi (q := 5) (by rw [hkm]; decide), zi (q := 6) (by rw [hkm]; decide), zi (q := 7) (by rw [hkm]; decide), zi (q := 8) (by rw [hkm]; decide), zi (q := 9) (by rw [hkm]; decide), zi (q := 10) (by rw [hkm]; decide)]
   rfl
  ·have hl := hrl 3
   have hgk := hg 3
   apply Walk.drawX zb zg [] [15, 16] (hsV _ [id, fun H => H.set 5 (.grow 3 ((rowS b j 3).isEmpty && false) (ints (rowS b j 3) ++ [natA j])), fun H => (H.set 5 (.grow 3 ((rowS b j 3).isEmpty && false) (ints (rowS b j 3) ++ [natA j]))).set 0 (.map (mput 3 (.gr 5 ((rowS b j 3).length + 1)) (esS b j)))]) [_, _, _, _, _, _, _, _, _, _, _, _, .gr 5 (rowS b j 3).length, _, _, .gr 5 ((rowS b j 3).length + 1), _] (by kernel_rfl) rfl
   ·skip
    repeat' first | ((with_reducible first | apply Chk.go | apply ChkA.go); conv => whnf) | (refine zh.a ?_; conv => whnf) | (with_reducible first | apply XAnd.mk | exact trivial) | (exact zd.mk rfl rfl) | ((refine yP.rowI (te := 3) (xs := rowS b j 3) 5 rfl hgk ?_); conv => whnf) | fail
   ·skip
    repeat' first | ((with_reducible first | apply Chk.go | apply ChkF.go | apply ChkB.go); conv => whnf) | (with_reducible first | apply XAnd.mk | exact trivial) | (exact zd.mk rfl rfl) | fail
   conv => whnf
   repeat' ((with_reducible refine XInt.a ?_); conv => whnf)
   refine zp.go (j + 1) [.cells [.int .i64 3, .int .i64 (b.surveys.getD j default).lo, .int .i64 (b.surveys.getD j default).hi]] (show j + 1 <= b.surveys.length by omega) (show b.surveys.length - (j + 1) < b.surveys.length - j by omega) ?_ ⟨rfl, rfl, rfl, rfl, rfl, rfl, trivial⟩
   rw [hes, zi (q := 0) (by rw [hkm]; decide), zi (q := 1) (by rw [hkm]; decide), zi (q := 2) (by rw [hkm]; decide), yE hkm, zi (q := 4) (by rw [hkm]; decide), zi (q := 5) (by rw [hkm]; decide), zi (q := 6) (by rw [hkm]; decide), zi (q := 7) (by rw [hkm]; decide), zi (q := 8) (by rw [hkm]; decide), zi (q := 9) (by rw [hkm]; decide), zi (q := 10) (by rw [hkm]; decide)]
   rfl
  ·have hl := hrl 4
   have hgk := hg 4
   apply Walk.drawX zb zg [] [15, 16] (hsV _ [id, fun H => H.set 6 (.grow 3 ((rowS b j 4).isEmpty && false) (ints (rowS b j 4) ++ [natA j])), fun H => (H.set 6 (.grow 3 ((rowS b j 4).isEmpty && false) (ints (rowS b j 4) ++ [natA j]))).set 0 (.map (mput 4 (.gr 6 ((rowS b j 4).length + 1)) (esS b j)))]) [_, _, _, _, _, _, _, _, _, _, _, _, .gr 6 (rowS b j 4).length, _, _, .gr 6 ((rowS b j 4).length + 1), _] (by kernel_rfl) rfl
   ·skip
    repeat' first | ((with_reducible first | apply Chk.go | apply ChkA.go); conv => whnf) | (refine zh.a ?_; conv => whnf) | (with_reducible first | apply XAnd.mk | exact trivial) | (exact zd.mk rfl rfl) | ((refine yP.rowI (te := 3) (xs := rowS b j 4) 6 rfl hgk ?_); conv => whnf) | fail
   ·skip
    repeat' first | ((with_reducible first | apply Chk.go | apply ChkF.go | apply ChkB.go); conv => whnf) | (with_reducible first | apply XAnd.mk | exact trivial) | (exact zd.mk rfl rfl) | fail
   conv => whnf
   repeat' ((with_reducible refine XInt.a ?_); conv => whnf)
   refine zp.go (j + 1) [.cells [.int .i64 4, .int .i64 (b.surveys.getD j default).lo, .int .i64 (b.surveys.getD j default).hi]] (show j + 1 <= b.surveys.length by omega) (show b.surveys.length - (j + 1) < b.surveys.length - j by omega) ?_ ⟨rfl, rfl, rfl, rfl, rfl, rfl, trivial⟩
   rw [hes, zi (q := 0) (by rw [hkm]; decide), zi (q := 1) (by rw [hkm]; decide), zi (q := 2) (by rw [hkm]; decide), zi (q := 3) (by rw [hkm]; decide), yE hkm, zi (q := 5) (by rw [hkm]; decide), zi (q := 6) (by rw [hkm]; decide), zi (q := 7) (by rw [hkm]; decide), zi (q := 8) (by rw [hkm]; decide), zi (q := 9) (by rw [hkm]; decide), zi (q := 10) (by rw [hkm]; decide)]
   rfl
  ·have hl := hrl 5
   have hgk := hg 5
   apply Walk.drawX zb zg [] [15, 16] (hsV _ [id, fun H => H.set 7 (.grow 3 ((rowS b j 5).isEmpty && false) (ints (rowS b j 5) ++ [natA j])), fun H => (H.set 7 (.grow 3 ((rowS b j 5).isEmpty && false) (ints (rowS b j 5) ++ [natA j]))).set 0 (.map (mput 5 (.gr 7 ((rowS b j 5).length + 1)) (esS b j)))]) [_, _, _, _, _, _, _, _, _, _, _, _, .gr 7 (rowS b j 5).length, _, _, .gr 7 ((rowS b j 5).length + 1), _] (by kernel_rfl) rfl
   ·skip
    repeat' first | ((with_reducible first | apply Chk.go | apply ChkA.go); conv => whnf) | (refine zh.a ?_; conv => whnf) | (with_reducible first | apply XAnd.mk | exact trivial) | (exact zd.mk rfl rfl) | ((refine yP.rowI (te := 3) (xs := rowS b j 5) 7 rfl hgk ?_); conv => whnf) | fail
   ·skip
    repeat' first | ((with_reducible first | apply Chk.go | apply ChkF.go | apply ChkB.go); conv => whnf) | (with_reducible first | apply XAnd.mk | exact trivial) | (exact zd.mk rfl rfl) | fail
   conv => whnf
   repeat' ((with_reducible refine XInt.a ?_); conv => whnf)
   refine zp.go (j + 1) [.cells [.int .i64 5, .int .i64 (b.surveys.getD j default).lo, .int .i64 (b.surveys.getD j default).hi]] (show j + 1 <= b.surveys.length by omega) (show b.surveys.length - (j + 1) < b.surveys.length - j by omega) ?_ ⟨rfl, rfl, rfl, rfl, rfl, rfl, trivial⟩
   rw [hes, zi (q := 0) (by rw [hkm]; decide), zi (q := 1) (by rw [hkm]; decide), zi (q := 2) (by rw [hkm]; decide), zi (q := 3) (by rw [hkm]; decide), zi (q := 4) (by rw [hkm]; decide), yE hkm, zi (q := 6) (by rw [hkm]; decide), zi (q := 7) (by rw [hkm]; decide), zi (q := 8) (by rw [hkm]; decide), zi (q := 9) (by rw [hkm]; decide), zi (q := 10) (by rw [hkm]; decide)]
   rfl
  ·have hl := hrl 6
   have hgk := hg 6
   apply Walk.drawX zb zg [] [15, 16] (hsV _ [id, fun H => H.set 8 (.grow 3 ((rowS b j 6).isEmpty && false) (ints (rowS b j 6) ++ [natA j])), fun H => (H.set 8 (.grow 3 ((rowS b j 6).isEmpty && false) (ints (rowS b j 6) ++ [natA j]))).set 0 (.map (mput 6 (.gr 8 ((rowS b j 6).length + 1)) (esS b j)))]) [_, _, _, _, _, _, _, _, _, _, _, _, .gr 8 (rowS b j 6).length, _, _, .gr 8 ((rowS b j 6).length + 1), _] (by kernel_rfl) rfl
   ·skip
    repeat' first | ((with_reducible first | apply Chk.go | apply ChkA.go); conv => whnf) | (refine zh.a ?_; conv => whnf) | (with_reducible first | apply XAnd.mk | exact trivial) | (exact zd.mk rfl rfl) | ((refine yP.rowI (te := 3) (xs := rowS b j 6) 8 rfl hgk ?_); conv => whnf) | fail
   ·skip
    repeat' first | ((with_reducible first | apply Chk.go | apply ChkF.go | apply ChkB.go); conv => whnf) | (with_reducible first | apply XAnd.mk | exact trivial) | (exact zd.mk rfl rfl) | fail
   conv => whnf
   repeat' ((with_reducible refine XInt.a ?_); conv => whnf)
   refine zp.go (j + 1) [.cells [.int .i64 6, .int .i64 (b.surveys.getD j default).lo, .int .i64 (b.surveys.getD j default).hi]] (show j + 1 <= b.surveys.length by omega) (show b.surveys.length - (j + 1) < b.surveys.length - j by omega) ?_ ⟨rfl, rfl, rfl, rfl, rfl, rfl, trivial⟩
   rw [hes, zi (q := 0) (by rw [hkm]; decide), zi (q := 1) (by rw [hkm]; decide), zi (q := 2) (by rw [hkm]; decide), zi (q := 3) (by rw [hkm]; decide), zi (q := 4) (by rw [hkm]; decide), zi (q := 5) (by rw [hkm]; decide), yE hkm, zi (q := 7) (by rw [hkm]; decide), zi (q := 8) (by rw [hkm]; decide), zi (q := 9) (by rw [hkm]; decide), zi (q := 10) (by rw [hkm]; decide)]
   rfl
  ·have hl := hrl 7
   have hgk := hg 7
   apply Walk.drawX zb zg [] [15, 16] (hsV _ [id, fun H => H.set 9 (.grow 3 ((rowS b j 7).isEmpty && false) (ints (rowS b j 7) ++ [natA j])), fun H => (H.set 9 (.grow 3 ((rowS b j 7).isEmpty && false) (ints (rowS b j 7) ++ [natA j]))).set 0 (.map (mput 7 (.gr 9 ((rowS b j 7).length + 1)) (esS b j)))]) [_, _, _, _, _, _, _, _, _, _, _, _, .gr 9 (rowS b j 7).length, _, _, .gr 9 ((rowS b j 7).length + 1), _] (by kernel_rfl) rfl
   ·skip
    repeat' first | ((with_reducible first | apply Chk.go | apply ChkA.go); conv => whnf) | (refine zh.a ?_; conv => whnf) | (with_reducible first | apply XAnd.mk | exact trivial) | (exact zd.mk rfl rfl) | ((refine yP.rowI (te := 3) (xs := rowS b j 7) 9 rfl hgk ?_); conv => whnf) | fail
   ·skip
    repeat' first | ((with_reducible first | apply Chk.go | apply ChkF.go | apply ChkB.go); conv => whnf) | (with_reducible first | apply XAnd.mk | exact trivial) | (exact zd.mk rfl rfl) | fail
   conv => whnf
   repeat' ((with_reducible refine XInt.a ?_); conv => whnf)
   refine zp.go (j + 1) [.cells [.int .i64 7, .int .i64 (b.surveys.getD j default).lo, .int .i64 (b.surveys.getD j default).hi]] (show j + 1 <= b.surveys.length by omega) (show b.surveys.length - (j + 1) < b.surveys.length - j by omega) ?_ ⟨rfl, rfl, rfl, rfl, rfl, rfl, trivial⟩
   rw [hes, zi (q := 0) (by rw [hkm]; decide), zi (q := 1) (by rw [hkm]; decide), zi (q := 2) (by rw [hkm]; decide), zi (q := 3) (by rw [hkm]; decide), zi (q := 4) (by rw [hkm]; decide), zi (q := 5) (by rw [hkm]; decide), zi (q := 6) (by rw [hkm]; decide), yE hkm, zi (q := 8) (by rw [hkm]; decide), zi (q := 9) (by rw [hkm]; decide), zi (q := 10) (by rw [hkm]; decide)]
   rfl
  ·have hl := hrl 8
   have hgk := hg 8
   apply Walk.drawX zb zg [] [15, 16] (hsV _ [id, fun H => H.set 10 (.grow 3 ((rowS b j 8).isEmpty && false) (ints (rowS b j 8) ++ [natA j])), fun H => (H.set 10 (.grow 3 ((rowS b j 8).isEmpty && false) (ints (rowS b j 8) ++ [natA j]))).set 0 (.map (mput 8 (.gr 10 ((rowS b j 8).length + 1)) (esS b j)))]) [_, _, _, _, _, _, _, _, _, _, _, _, .gr 10 (rowS b j 8).length, _, _, .gr 10 ((rowS b j 8).length + 1), _] (by kernel_rfl) rfl
   ·skip
    repeat' first | ((with_reducible first | apply Chk.go | apply ChkA.go); conv => whnf) | (refine zh.a ?_; conv => whnf) | (with_reducible first | apply XAnd.mk | exact trivial) | (exact zd.mk rfl rfl) | ((refine yP.rowI (te := 3) (xs := rowS b j 8) 10 rfl hgk ?_); conv => whnf) | fail
   ·skip
    repeat' first | ((with_reducible first | apply Chk.go | apply ChkF.go | apply ChkB.go); conv => whnf) | (with_reducible first | apply XAnd.mk | exact trivial) | (exact zd.mk rfl rfl) | fail
   conv => whnf
   repeat' ((with_reducible refine XInt.a ?_); conv => whnf)
   refine zp.go (j + 1) [.cells [.int .i64 8, .int .i64 (b.surveys.getD j default).lo, .int .i64 (b.surveys.getD j default).hi]] (show j + 1 <= b.surveys.length by omega) (show b.surveys.length - (j + 1) < b.surveys.length - j by omega) ?_ ⟨rfl, rfl, rfl, rfl, rfl, rfl, trivial⟩
   rw [hes, zi (q := 0) (by rw [hkm]; decide), zi (q := 1) (by rw [hkm]; decide), zi (q := 2) (by rw [hkm]; decide), zi (q := 3) (by rw [hkm]; decide), zi (q := 4) (by rw [hkm]; decide), zi (q := 5) (by rw [hkm]; decide), zi (q := 6) (by rw [hkm]; decide), zi (q := 7) (by rw [hkm]; decide), yE hkm, zi (q := 9) (by rw [hkm]; decide), zi (q := 10) (by rw [hkm]; decide)]
   rfl
  ·have hl := hrl 9
   have hgk := hg 9
   apply Walk.drawX zb zg [] [15, 16] (hsV _ [id, fun H => H.set 11 (.grow 3 ((rowS b j 9).isEmpty && false) (ints (rowS b j 9) ++ [natA j])), fun H => (H.set 11 (.grow 3 ((rowS b j 9).isEmpty && false) (ints (rowS b j 9) ++ [natA j]))).set 0 (.map (mput 9 (.gr 11 ((rowS b j 9).length + 1)) (esS b j)))]) [_, _, _, _, _, _, _, _, _, _, _, _, .gr 11 (rowS b j 9).length, _, _, .gr 11 ((rowS b j 9).length + 1), _] (by kernel_rfl) rfl
   ·skip
    repeat' first | ((with_reducible first | apply Chk.go | apply ChkA.go); conv => whnf) | (refine zh.a ?_; conv => whnf) | (with_reducible first | apply XAnd.mk | exact trivial) | (exact zd.mk rfl rfl) | ((refine yP.rowI (te := 3) (xs := rowS b j 9) 11 rfl hgk ?_); conv => whnf) | fail
   ·skip
    repeat' first | ((with_reducible first | apply Chk.go | apply ChkF.go | apply ChkB.go); conv => whnf) | (with_reducible first | apply XAnd.mk | exact trivial) | (exact zd.mk rfl rfl) | fail
   conv => whnf
   repeat' ((with_reducible refine XInt.a ?_); conv => whnf)
   refine zp.go (j + 1) [.cells [.int .i64 9, .int .i64 (b.surveys.getD j default).lo, .int .i64 (b.surveys.getD j default).hi]] (show j + 1 <= b.surveys.length by omega) (show b.surveys.length - (j + 1) < b.surveys.length - j by omega) ?_ ⟨rfl, rfl, rfl, rfl, rfl, rfl, trivial⟩
   rw [hes, zi (q := 0) (by rw [hkm]; decide), zi (q := 1) (by rw [hkm]; decide), zi (q := 2) (by rw [hkm]; decide), zi (q := 3) (by rw [hkm]; decide), zi (q := 4) (by rw [hkm]; decide), zi (q := 5) (by rw [hkm]; decide), zi (q := 6) (by rw [hkm]; decide), zi (q := 7) (by rw [hkm]; decide), zi (q := 8) (by rw [hkm]; decide), yE hkm, zi (q := 10) (by rw [hkm]; decide)]
   rfl
  ·have hl := hrl 10
   have hgk := hg 10
   apply Walk.drawX zb zg [] [15, 16] (hsV _ [id, fun H => H.set 12 (.grow 3 ((rowS b j 10).isEmpty && false) (ints (rowS b j 10) ++ [natA j])), fun H => (H.set 12 (.grow 3 ((rowS b j 10).isEmpty && false) (ints (rowS b j 10) ++ [natA j]))).set 0 (.map (mput 10 (.gr 12 ((rowS b j 10).length + 1)) (esS b j)))]) [_, _, _, _, _, _, _, _, _, _, _, _, .gr 12 (rowS b j 10).length, _, _, .gr 12 ((rowS b j 10).length + 1), _] (by kernel_rfl) rfl
   ·skip
    repeat' first | ((with_reducible first | apply Chk.go | apply ChkA.go); conv => whnf) | (refine zh.a ?_; conv => whnf) | (with_reducible first | apply XAnd.mk | exact trivial) | (exact zd.mk rfl rfl) | ((refine yP.rowI (te := 3) (xs := rowS b j 10) 12 rfl hgk ?_); conv => whnf) | fail
   ·skip
    repeat' first | ((with_reducible first | apply Chk.go | apply ChkF.go | apply ChkB.go); conv => whnf) | (with_reducible first | apply XAnd.mk | exact trivial) | (exact zd.mk rfl rfl) | fail
   conv => whnf
   repeat' ((with_reducible refine XInt.a ?_); conv => whnf)
   refine zp.go (j + 1) [.cells [.int .i64 10, .int .i64 (b.surveys.getD j default).lo, .int .i64 (b.surveys.getD j default).hi]] (show j + 1 <= b.surveys.length by omega) (show b.surveys.length - (j + 1) < b.surveys.length - j by omega) ?_ ⟨rfl, rfl, rfl, rfl, rfl, rfl, trivial⟩
   rw [hes, zi (q := 0) (by rw [hkm]; decide), zi (q := 1) (by rw [hkm]; decide), zi (q := 2) (by rw [hkm]; decide), zi (q := 3) (by rw [hkm]; decide), zi (q := 4) (by rw [hkm]; decide), zi (q := 5) (by rw [hkm]; decide), zi (q := 6) (by rw [hkm]; decide), zi (q := 7) (by rw [hkm]; decide), zi (q := 8) (by rw [hkm]; decide), zi (q := 9) (by rw [hkm]; decide), yE hkm]
   rfl
 ·obtain rfl : j = b.surveys.length := by omega
  refine wO.mk' [0, 1, 2, 3, 4, 5, 6, 7, 8, 9, 10, 11, 12] rfl (by decide) ?_ rfl
  refine SelR.id (n := 13) (fun i hi => by have : i = 0 \/ i = 1 \/ i = 2 \/ i = 3 \/ i = 4 \/ i = 5 \/ i = 6 \/ i = 7 \/ i = 8 \/ i = 9 \/ i = 10 \/ i = 11 \/ i = 12 := by omega
                                           rcases this with rfl | rfl | rfl | rfl | rfl | rfl | rfl | rfl | rfl | rfl | rfl | rfl | rfl <;> rfl) (dskS b) 0 rfl (ft b hm) (fun j x e => by rw [Nat.zero_add, zu]; exact e)
end GA
end
section
namespace GA
open Go Go.RowKit Go.Proofs
theorem one1 {a : AV} (h : a.one = true) : ∀ x ∈ [a], x.one = true := fun x hx => by rw [List.mem_singleton] at hx; rw [hx]; exact h
theorem zm (xs : List Int) : (ints xs).length = xs.length := List.length_map _
end GA
end
section
namespace GA
open Go Go.RowKit Go.Proofs
theorem qm {n : Nat} (xs : List Int) : (slA xs).low n = true := lowI xs
theorem fS {q : Int} {v : AV} : ∀ {es : List (Int × AV)}, (es.map (·.1)).Nodup -> ∀ p ∈ mput q v es, p = (q, v) \/ (p ∈ es /\ p.1 ≠ q)
 | [], _, p, hp => by simp [mput] at hp; exact .inl hp
 | (m, u) :: l, hn, p, hp => by
   simp only [List.map_cons, List.nodup_cons] at hn
   have hp' : p ∈ (if m = q then (m, v) :: l else (m, u) :: mput q v l) := hp
   split at hp'
   ·rename_i e; subst e
    rcases List.mem_cons.1 hp' with rfl | h
    ·exact .inl rfl
    ·refine .inr ⟨List.mem_cons_of_mem _ h, fun e => hn.1 ?_⟩
     rw [<- e]; exact List.mem_map.2 ⟨p, h, rfl⟩
   ·rename_i e
    rcases List.mem_cons.1 hp' with rfl | h
    ·exact .inr ⟨List.mem_cons_self, e⟩
    ·rcases fS hn.2 p h with h | ⟨h1, h2⟩
     ·exact .inl h
     ·exact .inr ⟨List.mem_cons_of_mem _ h1, h2⟩
theorem esS_nd (b : Bd) : ∀ j, ((esS b j).map (·.1)).Nodup
 | 0 => by simp [esS]
 | j + 1 => (gc _ _ _ (esS_nd b j)).1
theorem zal (b : Bd) (hm : ∀ s ∈ b.surveys, 0 <= s.m /\ s.m <= 10) : ∀ j, j <= b.surveys.length -> ∀ p ∈ esS b j, 0 <= p.1 /\ p.1 <= 10 /\ p.2 = .gr (2 + p.1.toNat) (rowS b j p.1.toNat).length
 | 0, _, p, hp => by simp [esS] at hp
 | j + 1, hj, p, hp => by
   have h0 := hm _ (zB (xs := b.surveys) (i := j) (d := default) (by omega))
   rcases fS (esS_nd b j) p hp with rfl | ⟨h1, h2⟩
   ·exact ⟨h0.1, h0.2, rfl⟩
   ·obtain ⟨h3, h4, h5⟩ := zal b hm j (by omega) p h1
    refine ⟨h3, h4, ?_⟩
    rw [h5, kX, if_neg (by omega)]
def rowT (b : Bd) (k : Nat) : List Int := rowS b b.surveys.length k
def keyS (b : Bd) : List Int := (esS b b.surveys.length).map (·.1)
def vW (b : Bd) : List AV := (keyS b).map fun k => slA (rowT b k.toNat)
def dskC (b : Bd) : List AV := bedC b ++ [.im (keyS b) (vW b)]
def dskA (b : Bd) : AV := .pim (dskC b)
theorem rowsS_low {n : Nat} (b : Bd) : lowL n (vW b) = true := y6 (fun _ => qm _) _
theorem lowDk1 {n : Nat} (b : Bd) : lowL n (dskC b) = true := by simp only [dskC, bedC, List.cons_append, List.nil_append, lowL, AV.low, yn, yO, rowsS_low]; rfl
theorem dskL {n : Nat} (b : Bd) : (dskA b).low n = true := lowDk1 b
theorem zdr (f : Int -> AV) (n : Int) : ∀ es : List (Int × AV), mget n ((es.map (·.1)).zip ((es.map (·.1)).map f)) = (mget n es).map fun _ => f n
 | [] => rfl
 | (m, u) :: l => by
   show (if m = n then some (f m) else mget n _) = (if m = n then some u else mget n l).map _
   by_cases h : m = n
   ·rw [if_pos h, if_pos h, h]; rfl
   ·rw [if_neg h, if_neg h]; exact zdr f n l
theorem look_desk {b : Bd} {H : List Blk} {K : AV -> Prop} (hm : ∀ s ∈ b.surveys, 0 <= s.m) (k : Nat) (h : K (slA (rowT b k))) : yP H (.sl true []) false (k : Int) ((keyS b).zip (vW b)) K := by
 refine yP.mk' (v := if (rowT b k).isEmpty = true then none else some (slA (rowT b k))) ?_ ?_
 ·show mget (k : Int) (((esS b b.surveys.length).map (·.1)).zip (((esS b b.surveys.length).map (·.1)).map fun k => slA (rowT b k.toNat))) = _
  rw [zdr, zbB b hm _ (Nat.le_refl _) k, Int.toNat_natCast]
  show Option.map _ (if (rowT b k).isEmpty = true then _ else _) = _
  split <;> rfl
 ·split
  ·rename_i e
   have e' : rowT b k = [] := by simpa using e
   rw [e'] at h; exact h
  ·exact h
structure BdOk (b : Bd) : Prop extends BedOk b where
 s1 : b.surveys.length <= 8
 su : ∀ s ∈ b.surveys, 0 <= s.m /\ s.m <= b.months.length /\ 0 <= s.lo /\ s.lo <= s.hi /\ s.hi <= b.room
theorem BdOk.sm {b : Bd} (o : BdOk b) : ∀ s ∈ b.surveys, 0 <= s.m /\ s.m <= 10 := fun s hs => by have := o.su s hs; have := o.m2; omega
theorem zz (b : Bd) : bedE b = 0 ↔ BdOk b := by
 unfold bedE
 constructor
 ·intro h
  split at h; · cases h
  split at h; · cases h
  split at h; · cases h
  split at h; · cases h
  split at h; · cases h
  rename_i h1 h2 h3 h4 h5
  simp only [Bool.not_eq_false, not_or, zx, List.all_eq_true, moR, yo, Bool.and_eq_true, suR1, suR2] at h1 h2 h3 h4 h5
  exact ⟨⟨h1.1, h1.2, by omega, by omega, h3.1.1, h3.1.2, h3.2.1.1, h3.2.1.2, fun m hm => by have := h3.2.2 m hm; omega⟩, by omega, fun s hs => by have := h4 s hs; have := h5 s hs; omega⟩
 ·intro o
  have h1 := o.r1; have h2 := o.r2; have h3 := o.m1; have h4 := o.m2; have h5 := o.f1; have h6 := o.f2; have h7 := o.u1; have h8 := o.u2; have h9 := o.s1
  have hm : b.months.all (moR b) = true := List.all_eq_true.2 fun m hm => by
   have := o.mo m hm
   simp only [moR, yo, Bool.and_eq_true, zx]; omega
  have hs1 : b.surveys.all (suR1 b) = true := List.all_eq_true.2 fun m hm => by
   have := o.su m hm
   simp only [suR1, yo, Bool.and_eq_true, zx]; omega
  have hs2 : b.surveys.all (suR2 b) = true := List.all_eq_true.2 fun m hm => by
   have := o.su m hm
   simp only [suR2, zx]; omega
  rw [if_neg (by rw [zx.2 ⟨h1, h2⟩]; simp), if_neg (by rw [zx.2 ⟨by omega, by omega⟩]; simp; omega), if_neg (by rw [zx.2 ⟨h5, h6⟩, zx.2 ⟨h7, h8⟩, hm]; simp), if_neg (by rw [hs1]; simp), if_neg (by rw [hs2]; simp)]
theorem bedOne (b : Bd) : ∀ x ∈ bedC b, x.one = true := by simp [bedC, AV.one]
theorem dskOne (b : Bd) : ∀ x ∈ dskC b, x.one = true := by simp [dskC, bedC, AV.one]
theorem gZ (P : Program) {H : List Blk} (f : Int -> AV) : ∀ (es : List (Int × AV)), (∀ p ∈ es, Froz P H p.2 (f p.1)) -> yN P H (es.map (·.2)) ((es.map (·.1)).map f)
 | [], _ => .nil
 | p :: l, h => .cons (h p List.mem_cons_self) (gZ P f l fun q hq => h q (List.mem_cons_of_mem _ hq))
theorem yN.bedD {P : Program} {H : List Blk} {b : Bd} {x y : AV} (h : Froz P H x y) : yN P H (bedC b ++ [x]) (bedC b ++ [y]) :=
 .cons (.low rfl) (.cons (.low rfl) (.cons (.low rfl) (.cons (.low (yn _)) (.cons (.low (yO _)) (.cons h .nil)))))
theorem kv (b : Bd) (ok : BdOk b) : Comp Tryz.prog 208 [bedA b] (.tup [dskA b, .int .i64 0]) := by
 refine (vQ b ((zz b).2 ok) ok.m2 ok.s1 ok.sm).comp ?_
 refine Froz.tup (.cons (Froz.ptr rfl (dskOne b) ?_) (.cons (.low rfl) .nil))
 refine yN.bedD (Froz.mp rfl (gZ _ (fun k => slA (rowT b k.toNat)) _ fun p hp => ?_))
 obtain ⟨h1, h2, h3⟩ := zal b ok.sm _ (Nat.le_refl _) p hp
 rw [h3]
 obtain ⟨k, hk, hk2⟩ : ∃ k : Nat, k <= 10 /\ p.1.toNat = k := ⟨p.1.toNat, by omega, rfl⟩
 rw [hk2]
 have hkk : k = 0 \/ k = 1 \/ k = 2 \/ k = 3 \/ k = 4 \/ k = 5 \/ k = 6 \/ k = 7 \/ k = 8 \/ k = 9 \/ k = 10 := by omega
 rcases hkk with rfl | rfl | rfl | rfl | rfl | rfl | rfl | rfl | rfl | rfl | rfl <;> exact Froz.grow rfl (List.length_map _) (lowI _)
theorem kd (b : Bd) (h1 : b.months.length <= 100000) (h2 : b.surveys.length <= 100000) (hE : bedE b ≠ 0) : Comp Tryz.prog 208 [bedA b] (.tup [.nilp, .int .i64 (bedE b)]) := by
 have hc := ki b h1 h2
 generalize bedE b = e at hc hE
 refine Comp.body (T := tab) (res := [.tmp 2, .tmp 3]) zb [] Tryz.func208 rfl (by kernel_rfl) Tryz.ntmps208 rfl (by simp only [List.length_cons, List.length_nil]; decide) (by simp only [lowL, bedL]; rfl) ?_; conv => whnf
 repeat' first | ((with_reducible first | refine XBr.y2 fun h => ?_ | refine XBr.n2 fun h => ?_ | refine XBr.bne (fun h => ?_) fun h => ?_) <;> conv => whnf) | ((refine za.ret hc ?_); conv => whnf) | fail
 exact ⟨.low rfl⟩
theorem zas (b : Bd) (m : Int) (h : b.months.length <= 100000) : Comp Tryz.prog 213 [bedA b, .int .i64 m] (.bool (inZ m 0 ((b.months.length : Int) - 1))) := by
 have e1 : ((b.months.map moA).length : Int) = b.months.length := by rw [List.length_map]
 refine Comp.body (T := tab) (res := [.tmp 4]) zb [] Tryz.func213 rfl (by kernel_rfl) Tryz.ntmps213 rfl (by simp only [List.length_cons, List.length_nil]; decide) (by simp only [lowL, bedL, AV.low]; rfl) ?_; conv => whnf
 repeat' first | ((first | (with_reducible refine XInt.a ?_) | (refine za.ret (y8 _ _ _) ?_)); conv => whnf) | fail
 exact XOut.bool (by rw [e1])
theorem zb1 (m : Mo) : Comp Tryz.prog 207 [moA m] (chA m.ph m.tl) := by
 refine Comp.body (T := tab) (res := [.cell 2 68]) zb [] Tryz.func207 rfl (by kernel_rfl) Tryz.ntmps207 rfl (by simp only [List.length_cons, List.length_nil]; decide) (by rfl) ?_; conv => whnf
 skip
 exact ⟨.low rfl⟩
def ji (m : Mo) (sp st : Int) : Bool := inZ sp m.pl m.ph && inZ st m.tl m.th
theorem bChance_c (m : Mo) (sp st : Int) : Comp Tryz.prog 214 [moA m, chA sp st] (.bool (ji m sp st)) := by
 refine Comp.body (T := tab) (res := [.tmp 4]) zb [] Tryz.func214 rfl (by kernel_rfl) Tryz.ntmps214 rfl (by simp only [List.length_cons, List.length_nil]; decide) (by rfl) ?_; conv => whnf
 repeat' first | ((first | (with_reducible first | apply XBr.tt | apply XBr.ff) | (refine za.ret (y8 _ _ _) ?_)); conv => whnf) | ((with_reducible refine XBr.mk' (fun h => ?_) fun h => ?_) <;> conv => whnf) | fail
 all_goals exact XOut.bool (by unfold ji; simp [*])
def moC (m : Mo) : List AV := [.int .i64 m.g, .int .i64 m.r, .int .i64 m.pl, .int .i64 m.ph, .int .i64 m.tl, .int .i64 m.th]
def moB (b : Bd) (m : Nat) : Mo := b.months.getD m default
def hiR (b : Bd) (m n : Nat) : Int := zJ b.room (moB b m).g n (moB b m).ph (moB b m).tl - (moB b m).r
def loR (b : Bd) (m n : Nat) : Nat := (max 0 (lieR b m n - (moB b m).r)).toNat
def lvF (c : Nat) (hi : Int) : List Nat := List.range' c (hi + 1 - c).toNat
theorem fh {c : Nat} {hi : Int} (h : (c : Int) <= hi) : lvF c hi = c :: lvF (c + 1) hi := by
 unfold lvF
 obtain ⟨d, hd⟩ : ∃ d : Nat, (hi + 1 - c).toNat = d + 1 := ⟨(hi - c).toNat, by omega⟩
 rw [hd, List.range'_succ]
 congr 1
 congr 1
 omega
theorem lvF_nil {c : Nat} {hi : Int} (h : hi < c) : lvF c hi = [] := by
 unfold lvF
 rw [show (hi + 1 - c).toNat = 0 by omega]; rfl
theorem jQ {c k : Nat} {hi : Int} : k ∈ lvF c hi ↔ c <= k /\ (k : Int) <= hi := by
 unfold lvF
 rw [List.mem_range'_1]; omega
def lvL (b : Bd) (m n : Nat) : List Nat := lvF (loR b m n) (hiR b m n)
theorem BedOk.mo' {b : Bd} (o : BedOk b) {m : Nat} (h : m < b.months.length) : 0 <= (moB b m).g /\ (moB b m).g <= 100 /\ 0 <= (moB b m).r /\ (moB b m).r <= b.room /\ 0 <= (moB b m).pl /\ (moB b m).pl <= (moB b m).ph /\ (moB b m).ph <= 60 /\ 0 <= (moB b m).tl /\ (moB b m).tl <= (moB b m).th /\ (moB b m).th <= 60 := o.mo _ (zB (d := default) h)
theorem qz {b : Bd} (o : BedOk b) {m n : Nat} (h : m < b.months.length) : -b.room <= hiR b m n /\ hiR b m n <= b.room := by
 have hm := o.mo' h
 have := o.r1
 have := ku (room := b.room) (g := (moB b m).g) (a := n) (sp := (moB b m).ph) (st := (moB b m).tl) (by omega) (by omega)
 unfold hiR; omega
theorem loR_b {b : Bd} (o : BedOk b) {m n : Nat} (h : m < b.months.length) : (loR b m n : Int) <= b.room := by
 have hm := o.mo' h
 have := yp o (j := m) (n := n) h
 unfold loR; omega
theorem moOne (m : Mo) : ∀ x ∈ moC m, x.one = true := by simp [moC, AV.one]
theorem j7 (b : Bd) (ok : BedOk b) (m n : Nat) (h : m < b.months.length) : Comp Tryz.prog 104 [dskA b, natA m, natA n] (.fn 206 [.pim [dskA b], .pim [natA m], .pim [natA n], .pim (moC (moB b m))]) := by
 have m2 := ok.m2
 refine Comp.body (T := tab) (res := [.tmp 6]) zb [] Tryz.func104 rfl (by kernel_rfl) Tryz.ntmps104 rfl (by simp only [List.length_cons, List.length_nil]; decide) (by simp only [lowL, dskL, AV.low]; rfl) ?_; conv => whnf
 repeat' first | ((with_reducible first | apply Chk.go | apply ChkA.go | apply ChkF.go | apply ChkB.go | apply zw.mk); conv => whnf) | (refine XIx.a ?_; conv => whnf) | (with_reducible first | apply XAnd.mk | exact trivial) | (exact zd.mk rfl rfl) | (apply Walk.drawN (id := 1) zb zg [] [8, 9] (hsC [_, _, _]) [_, _, _, _, _, _, _, _, _, _] (by kernel_rfl) rfl) | fail
 exact ⟨Froz.fn (.cons (.low (by simp only [AV.low, lowL, dskL]; rfl)) (.cons (.low rfl) (.cons (.low rfl) (.cons (Froz.ptr rfl (moOne _) (.low rfl)) .nil))))⟩
theorem jJ (b : Bd) (ok : BedOk b) (m n i : Nat) (hm : m < b.months.length) (hn : (n : Int) <= b.room) (H : List Blk) (K : List Blk -> Prop) (hK : wh Tryz.prog i K (lvL b m n) H) :
  za Tryz.prog 206 [.yld i, .pim [dskA b], .pim [natA m], .pim [natA n], .pim (moC (moB b m))] H fun _ H' => K H' := by
 have hr1 := ok.r1
 have hr2 := ok.r2
 have hm2 := ok.m2
 have hmo := ok.mo' hm
 have hlb := yp ok (j := m) (n := n) hm
 have hhb := qz ok (m := m) (n := n) hm
 have hc1 := y9 b m n (moB b m).pl (moB b m).th hm (by omega) (by omega) hmo.1 hmo.2.1 (by omega) (by omega) (by omega) (by omega) (by omega) (by omega)
 have hc2 := y9 b m n (moB b m).ph (moB b m).tl hm (by omega) (by omega) hmo.1 hmo.2.1 (by omega) (by omega) (by omega) (by omega) (by omega) (by omega)
 change Comp Tryz.prog _ _ (.int .i64 (lieR b m n)) at hc1
 change Comp Tryz.prog _ _ (.int .i64 (zJ b.room (moB b m).g n (moB b m).ph (moB b m).tl)) at hc2
 have hhi : zJ b.room (moB b m).g n (moB b m).ph (moB b m).tl = hiR b m n + (moB b m).r := by unfold hiR; omega
 have hgr := fun x => yX 0 false [x] (by simp)
 rw [hhi] at hc2
 refine za.inl (T := tab) (res := []) zb [] Tryz.func206 rfl (by kernel_rfl) Tryz.ntmps206 rfl (by simp only [List.length_append, List.length_cons, List.length_nil]; decide) ?_; conv => whnf
 repeat' first | ((with_reducible first | refine XInt.a ?_ | apply Chk.go | apply ChkA.go | apply ChkF.go | apply ChkB.go | apply zw.mk); conv => whnf) | (refine zh.a ?_; conv => whnf) | (with_reducible first | apply XAnd.mk | exact trivial) | (exact zd.mk rfl rfl) | (apply Walk.drawN (id := 0) zb zg [] [] (hsU _) [_, _, _, _, _, _, _, _, _, _, _, _, _, _, _] (by kernel_rfl) rfl) | ((first | refine za.ret (jj (moB b m)) ?_ | refine za.ret hc1 ?_ | refine za.ret (hgr _) ?_); conv => whnf) | fail
 refine Walk.loopK zb [] [(0, _), (1, _), (2, _), (3, _), (4, _)] ⟨rfl, rfl, rfl, rfl, rfl, trivial⟩ (fun g : Nat × List Blk => (g.1 : Int) <= b.room + 1 /\ wh Tryz.prog i K (lvF g.1 (hiR b m n)) g.2) (fun g => [(6, natA g.1)]) (fun g => g.2) (fun g => (b.room + 1).toNat - g.1) (loR b m n, H) ⟨by have := loR_b ok (n := n) hm; dsimp only; omega, hK⟩ rfl ⟨?_, trivial⟩ ?_
 ·refine congrArg (fun z => some (AV.int .i64 z)) ?_
  unfold loR
  rw [Int.toNat_of_nonneg (by omega)]; rfl
 rintro ⟨c, H'⟩ ⟨h1, h2⟩
 dsimp only at h1 h2 ⊢
 conv => whnf
 repeat' first | ((with_reducible first | refine XBr.y fun h => ?_ | refine XBr.n fun h => ?_ | refine XBr.dec (fun h => ?_) fun h => ?_ | refine XInt.a ?_ | apply Chk.go | apply ChkA.go | apply ChkF.go | apply ChkB.go | apply zw.mk) <;> conv => whnf) | (with_reducible first | apply XAnd.mk | exact trivial) | (exact zd.mk rfl rfl) | (apply Walk.drawN (id := 1) zb zg [] [] (hsU _) [_, _, _, _, _, _, _, _, _, _, _, _, _, _] (by kernel_rfl) rfl) | ((first | refine za.ret (zb1 (moB b m)) ?_ | refine za.ret hc2 ?_); conv => whnf) | fail
 ·rw [fh (by omega)] at h2
  refine ⟨zaM h2.o ?_⟩
  rintro r H'' (⟨rfl, h5⟩ | ⟨rfl, h5⟩)
  ·conv => whnf
   repeat' first | ((with_reducible first | apply XBr.tt | refine XInt.a ?_); conv => whnf) | with_reducible apply XBr.not | fail
   exact zk.go (c + 1, H'') ⟨by dsimp only; omega, h5⟩ (by dsimp only; omega) rfl ⟨rfl, rfl, rfl, rfl, rfl, rfl, trivial⟩
  ·conv => whnf
   repeat' first | ((with_reducible apply XBr.ff); conv => whnf) | with_reducible apply XBr.not | fail
   exact h5
 ·rw [lvF_nil (by omega)] at h2
  exact h2
end GA
end
section
namespace GA
open Go Go.RowKit Go.Proofs
structure BdK (b : Bd) : Prop extends BedOk b where
 s9 : b.surveys.length <= 9
 su : ∀ s ∈ b.surveys, 0 <= s.m /\ s.m <= b.months.length /\ 0 <= s.lo /\ s.lo <= s.hi /\ s.hi <= b.room
theorem BdOk.k {b : Bd} (o : BdOk b) : BdK b := ⟨o.toBedOk, by have := o.s1; omega, o.su⟩
instance {b : Bd} : Coe (BdOk b) (BdK b) := ⟨BdOk.k⟩
theorem zde (x : Int) (g : FuncId) (caps : List AV) (p : Int -> Bool) (hl : lowL 0 caps = true) (hp : Comp Tryz.prog g (.int .i64 x :: caps) (.bool (p x))) :
  Comp Tryz.prog 276 [.int .i64 x, .pim [.fn g caps]] (.bool (!p x)) := by
 refine Comp.body (T := tab) (res := [.tmp 3]) zb [] Tryz.func276 rfl (by kernel_rfl) Tryz.ntmps276 rfl (by simp only [List.length_cons, List.length_nil]; decide) (by simp only [lowL, AV.low, hl]; rfl) ?_; conv => whnf
 refine za.ret hp ?_
 conv => whnf
 exact XOut.bool rfl
theorem zdD (nl : Bool) (xs : List Int) (g : FuncId) (caps : List AV) (p : Int -> Bool) (hl : lowL 0 caps = true) (hx : xs.length <= 100000) (hp : ∀ x ∈ xs, Comp Tryz.prog g (.int .i64 x :: caps) (.bool (p x))) :
  Comp Tryz.prog 263 [.sl nl (ints xs), .fn g caps] (.bool (xs.all p)) := by
 refine Comp.body (T := tab) (res := [.tmp 4]) zb [] Tryz.func263 rfl (by kernel_rfl) Tryz.ntmps263 rfl (by simp only [List.length_cons, List.length_nil]; decide) (by simp only [lowL, AV.low, lowI, hl]; rfl) ?_; conv => whnf
 refine za.ret (zbi nl xs 276 [.pim [.fn g caps]] (fun x => !p x) (by simp only [lowL, AV.low, hl]; rfl) hx fun x hm => zde x g caps p hl (hp x hm)) ?_
 conv => whnf
 refine XOut.bool ?_
 rw [List.not_any_eq_all_not]; simp
theorem zdB (x : Int) (g : FuncId) (fs : List AV) (p : Int -> Bool) (hl : lowL 0 fs = true) (hp : Comp Tryz.prog g (fs ++ [.int .i64 x]) (.bool (p x))) :
  Comp Tryz.prog 276 [.int .i64 x, .pim [.bf g fs]] (.bool (!p x)) := by
 refine Comp.body (T := tab) (res := [.tmp 3]) zb [] Tryz.func276 rfl (by kernel_rfl) Tryz.ntmps276 rfl (by simp only [List.length_cons, List.length_nil]; decide) (by simp only [lowL, AV.low, hl]; rfl) ?_; conv => whnf
 refine za.ret hp ?_
 conv => whnf
 exact XOut.bool rfl
theorem qJ (nl : Bool) (xs : List Int) (g : FuncId) (fs : List AV) (p : Int -> Bool) (hl : lowL 0 fs = true) (hx : xs.length <= 100000) (hp : ∀ x ∈ xs, Comp Tryz.prog g (fs ++ [.int .i64 x]) (.bool (p x))) :
  Comp Tryz.prog 263 [.sl nl (ints xs), .bf g fs] (.bool (xs.all p)) := by
 refine Comp.body (T := tab) (res := [.tmp 4]) zb [] Tryz.func263 rfl (by kernel_rfl) Tryz.ntmps263 rfl (by simp only [List.length_cons, List.length_nil]; decide) (by simp only [lowL, AV.low, lowI, hl]; rfl) ?_; conv => whnf
 refine za.ret (zbi nl xs 276 [.pim [.bf g fs]] (fun x => !p x) (by simp only [lowL, AV.low, hl]; rfl) hx fun x hm => zdB x g fs p hl (hp x hm)) ?_
 conv => whnf
 refine XOut.bool ?_
 rw [List.not_any_eq_all_not]; simp
def fltA (g : FuncId) (caps : List AV) : AV := .agg [.fn g caps]
structure Flt (b : Bd) (g : FuncId) (caps : List AV) (p : Nat -> Bool) : Prop where
 lo : lowL 0 caps = true
 c : ∀ i, i < b.surveys.length -> Comp Tryz.prog g (natA i :: caps) (.bool (p i))
theorem fp : Comp Tryz.prog 102 [] (fltA 205 []) := by
 refine Comp.body (T := tab) (res := [.cell 0 170]) zb [] Tryz.func102 rfl (by kernel_rfl) Tryz.ntmps102 rfl (by simp only [List.length_cons, List.length_nil]; decide) (by rfl) ?_; conv => whnf
 skip
 exact ⟨.low rfl⟩
theorem bAll1_c (i : Int) : Comp Tryz.prog 205 [.int .i64 i] (.bool true) := by
 refine Comp.body (T := tab) (res := [.tmp 2]) zb [] Tryz.func205 rfl (by kernel_rfl) Tryz.ntmps205 rfl (by simp only [List.length_cons, List.length_nil]; decide) (by rfl) ?_; conv => whnf
 skip
 exact ⟨.low rfl⟩
theorem allF_c (b : Bd) : Flt b 205 [] fun _ => true := ⟨rfl, fun i _ => bAll1_c i⟩
def suB (b : Bd) (i : Nat) : Su := b.surveys.getD i default
def agB (b : Bd) (p : Nat -> Bool) (m n : Nat) : Bool := (rowT b m).all fun i => !p i.toNat || inZ n (suB b i.toNat).lo (suB b i.toNat).hi
theorem fU {b : Bd} {m : Nat} {x : Int} : x ∈ rowT b m ↔ ∃ i : Nat, i < b.surveys.length /\ (suB b i).m = m /\ x = i := by
 unfold rowT rowS
 rw [List.mem_map]
 constructor
 ·rintro ⟨i, hi, rfl⟩
  rw [List.mem_filter, List.mem_range] at hi
  exact ⟨i, hi.1, by simpa [suB] using hi.2, rfl⟩
 ·rintro ⟨i, hi, hm, rfl⟩
  exact ⟨i, by rw [List.mem_filter, List.mem_range]; exact ⟨hi, by simpa [suB] using hm⟩, rfl⟩
theorem rowT_len (b : Bd) (m : Nat) : (rowT b m).length <= b.surveys.length := by
 unfold rowT rowS
 rw [List.length_map]; exact Nat.le_trans (List.length_filter_le _ _) (by simp)
theorem zdW (b : Bd) (g : FuncId) (caps : List AV) (p : Nat -> Bool) (hf : Flt b g caps p) (hs : b.surveys.length <= 100000) (n i : Nat) (hi : i < b.surveys.length) : Comp Tryz.prog 265 [natA i, .pim [dskA b], .pim [.fn g caps], .pim [natA n]] (.bool (!p i || inZ n (suB b i).lo (suB b i).hi)) := by
 have hc := hf.c i hi
 generalize p i = r at hc
 refine Comp.body (T := tab) (res := [.tmp 5]) zb [] Tryz.func265 rfl (by kernel_rfl) Tryz.ntmps265 rfl (by simp only [List.length_cons, List.length_nil]; decide) (by simp only [lowL, AV.low, dskL, hf.lo]; rfl) ?_; conv => whnf
 repeat' first | ((with_reducible first | apply XBr.tt | apply XBr.ff); conv => whnf) | with_reducible apply XBr.not | ((first | refine XIx.a ?_ | refine za.ret hc ?_ | refine za.ret (y8 _ _ _) ?_); conv => whnf) | ((with_reducible refine XBr.mk' (fun h => ?_) fun h => ?_) <;> conv => whnf) | fail
 all_goals exact XOut.bool (by rw [h]; rfl)
theorem zbh (b : Bd) (ok : BdK b) (g : FuncId) (caps : List AV) (p : Nat -> Bool) (hf : Flt b g caps p) (m n : Nat) : Comp Tryz.prog 228 [dskA b, fltA g caps, natA m, natA n] (.bool (agB b p m n)) := by
 have h1 := ok.s9
 have hl := rowT_len b m
 have he := zdD (rowT b m).isEmpty (rowT b m) 265 [.pim [dskA b], .pim [.fn g caps], .pim [natA n]] (fun i => !p i.toNat || inZ n (suB b i.toNat).lo (suB b i.toNat).hi) (by simp only [lowL, AV.low, dskL, hf.lo]; rfl) (by omega) fun x hx => by
  obtain ⟨i, hi, _, rfl⟩ := fU.1 hx
  exact zdW b g caps p hf (by omega) n i hi
 refine Comp.body (T := tab) (res := [.tmp 8]) zb [] Tryz.func228 rfl (by kernel_rfl) Tryz.ntmps228 rfl (by simp only [List.length_cons, List.length_nil]; decide) (by simp only [lowL, AV.low, dskL, fltA, hf.lo]; rfl) ?_; conv => whnf
 repeat' ((first | refine look_desk (fun s hs => (ok.su s hs).1) m ?_ | refine za.ret he ?_); conv => whnf)
 exact XOut.bool rfl
def ahB (b : Bd) (p : Nat -> Bool) : Nat -> Nat -> Bool
 | 0, n => agB b p b.months.length n
 | k + 1, n => (lvL b (b.months.length - (k + 1)) n).any (ahB b p k) && agB b p (b.months.length - (k + 1)) n
def ahF (b : Bd) (p : Nat -> Bool) (m n : Nat) : Bool := decide ((n : Int) <= b.room) && ahB b p (b.months.length - m) n
def AhI (b : Bd) (p : Nat -> Bool) (k n : Nat) (F : Nat -> Nat -> Bool) : Prop :=
 ∀ i, i <= b.months.length -> ∀ j, j < 121 -> F i j = if b.months.length < i + k then ahF b p i j else if i + k = b.months.length then decide (j < n) && ahB b p k j else false
theorem AhI.put {b : Bd} {p : Nat -> Bool} {k n : Nat} {F : Nat -> Nat -> Bool} (h : AhI b p k n F) (hk : k <= b.months.length) {v : Bool} (hv : v = ahB b p k n) : AhI b p k (n + 1) (updM F (b.months.length - k) n v) := by
 intro i hi j hj
 unfold updM
 by_cases h1 : i = b.months.length - k /\ j = n
 ·rw [if_pos h1, if_neg (by omega), if_pos (by omega), h1.2, hv]; simp
 ·rw [if_neg h1, h i hi j hj]
  by_cases h2 : b.months.length < i + k
  ·rw [if_pos h2, if_pos h2]
  ·rw [if_neg h2, if_neg h2]
   by_cases h3 : i + k = b.months.length
   ·rw [if_pos h3, if_pos h3]
    have : j ≠ n := fun e => h1 ⟨by omega, e⟩
    rw [show decide (j < n + 1) = decide (j < n) by rw [decide_eq_decide]; omega]
   ·rw [if_neg h3, if_neg h3]
theorem AhI.next {b : Bd} {p : Nat -> Bool} {k n : Nat} {F : Nat -> Nat -> Bool} (h : AhI b p k n F) (hn : (n : Int) = b.room + 1) : AhI b p (k + 1) 0 F := by
 intro i hi j hj
 rw [h i hi j hj]
 by_cases h2 : b.months.length < i + k
 ·rw [if_pos h2, if_pos (by omega)]
 ·rw [if_neg h2]
  by_cases h3 : i + k = b.months.length
  ·rw [if_pos h3, if_pos (by omega)]
   unfold ahF
   rw [show b.months.length - i = k by omega, show decide (j < n) = decide ((j : Int) <= b.room) by rw [decide_eq_decide]; omega]
  ·rw [if_neg h3, if_neg (by omega)]
   split
   ·simp
   ·rfl
theorem AhI.read {b : Bd} {p : Nat -> Bool} {k n : Nat} {F : Nat -> Nat -> Bool} (h : AhI b p (k + 1) n F) (hk : k + 1 <= b.months.length) {j : Nat} (hj : j < 121) (hr : (j : Int) <= b.room) : F (b.months.length - k) j = ahB b p k j := by
 rw [h _ (by omega) j hj, if_pos (by omega)]
 unfold ahF
 rw [decide_eq_true hr, show b.months.length - (b.months.length - k) = k by omega]; rfl
theorem qN (f : Nat -> Bool) : ∀ (l : List Nat) (s : Bool), l.foldl (fun s c => s || f c) s = (s || l.any f)
 | [], s => by simp
 | c :: l, s => by rw [List.foldl_cons, qN f l, List.any_cons, Bool.or_assoc]
theorem q8 {f g : Nat -> Bool} : ∀ {l : List Nat}, (∀ c ∈ l, f c = g c) -> l.any f = l.any g
 | [], _ => rfl
 | c :: l, h => by rw [List.any_cons, List.any_cons, h c List.mem_cons_self, q8 fun c' hc' => h c' (List.mem_cons_of_mem _ hc')]
theorem mat0 (N : Nat) : (matF N 121 fun _ _ => false).map (arrF .bool) = List.replicate N (.agg (List.replicate 121 (.bool false))) := by
 unfold matF
 rw [zT, zT, List.map_replicate]
 unfold arrF
 rw [List.map_replicate]
theorem za1 (b : Bd) (p : Nat -> Bool) (F : Nat -> Nat -> Bool) (hF : AhI b p (b.months.length + 1) 0 F) {H : List Blk} (hH : lget H 0 = some (.grow 173 false ((matF (b.months.length + 1) 121 F).map (arrF .bool)))) :
  XOut Tryz.prog H (.gr 0 (b.months.length + 1)) (.sl false ((matF (b.months.length + 1) 121 (ahF b p)).map (arrF .bool))) := by
 have e : matF (b.months.length + 1) 121 (ahF b p) = matF (b.months.length + 1) 121 F := fX fun i hi j hj => by rw [hF i (by omega) j hj, if_pos (by omega)]
 rw [e]
 exact ⟨Froz.grow hH (by simp only [matF, List.length_map, zj]) (jh fun _ => rfl)⟩
theorem ahead_c (b : Bd) (ok : BdK b) (g : FuncId) (caps : List AV) (p : Nat -> Bool) (hf : Flt b g caps p) : Comp Tryz.prog 204 [dskA b, fltA g caps] (.sl false ((matF (b.months.length + 1) 121 (ahF b p)).map (arrF .bool))) := by
 have m1 := ok.m1
 have m2 := ok.m2
 have r1 := ok.r1
 have r2 := ok.r2
 have e1 : ((b.months.map moA).length : Int) = b.months.length := by rw [List.length_map]
 have agr := fun m n => zbh b ok g caps p hf m n
 refine Comp.body (T := tab) (res := [.tmp 4]) zb [] Tryz.func204 rfl (by kernel_rfl) Tryz.ntmps204 rfl (by simp only [List.length_cons, List.length_nil]; decide) (by simp only [lowL, AV.low, dskL, fltA, hf.lo]; rfl) ?_; conv => whnf
 repeat' first | ((with_reducible refine XInt.a ?_); conv => whnf) | (refine zh.a ?_; conv => whnf) | fail
 refine Walk.loopM zb [] (fun q : Bool × Int × Nat × Int × (Nat -> Nat -> Bool) => q.2.2.1 <= b.months.length + 1 /\ q.2.2.2.1 = (b.months.length : Int) - q.2.2.1 /\ AhI b p q.2.2.1 0 q.2.2.2.2)
  (fun q => [(6, .ptr (bif q.1 then 3 else 2) 0), (0, dskA b), (3, .pim [.fn g caps]), (4, .sl true []), (5, .ptr 1 0)])
  (fun q => [.grow 173 false ((matF (b.months.length + 1) 121 q.2.2.2.2).map (arrF .bool)), .cells [.gr 0 (b.months.length + 1)]] ++ (bif q.1 then [.cells [.int .i64 q.2.1], .cells [.int .i64 q.2.2.2.1]] else [.cells [.int .i64 q.2.2.2.1]]))
  (fun q => b.months.length + 1 - q.2.2.1) (false, 0, 0, (b.months.length : Int), fun _ _ => false) 3 ⟨Nat.zero_le _, by simp, fun i hi j hj => ?_⟩ ?_ rfl ⟨rfl, rfl, rfl, rfl, rfl, trivial⟩ ?_
 ·dsimp only; rw [if_neg (by omega)]; split <;> simp
 ·dsimp only
  rw [mat0]
  show _ = [Blk.grow _ false (List.replicate (((b.months.map moA).length : Int) + 1).toNat _), Blk.cells [.gr 0 (((b.months.map moA).length : Int) + 1).toNat], Blk.cells [.int .i64 ((b.months.map moA).length : Int)]]
  rw [show (((b.months.map moA).length : Int) + 1).toNat = b.months.length + 1 by omega, e1]; rfl
 rintro ⟨s, jz, k, mz, F⟩ ⟨hk, hmz, hF⟩
 dsimp only at hk hmz hF ⊢
 cases s
 ·conv => whnf
  repeat' ((with_reducible first | refine XBr.y fun h => ?_ | refine XBr.n fun h => ?_ | refine XBr.dec (fun h => ?_) fun h => ?_ | refine XInt.a ?_) <;> conv => whnf)
  ·obtain ⟨m, rfl⟩ : ∃ m : Nat, mz = m := ⟨mz.toNat, by omega⟩
   have hkm : k <= b.months.length := by omega
   have hgo := agr m
   refine Walk.loopM zb [] (fun q : Nat × (Nat -> Nat -> Bool) => (q.1 : Int) <= b.room + 1 /\ AhI b p k q.1 q.2) (fun q => [(0, dskA b), (3, .pim [.fn g caps]), (4, .sl true []), (5, .ptr 1 0), (6, .ptr 2 0), (33, .int .i64 (b.room + 1)), (34, natA q.1)])
    (fun q => [.grow 173 false ((matF (b.months.length + 1) 121 q.2).map (arrF .bool)), .cells [.gr 0 (b.months.length + 1)], .cells [natA m]]) (fun q => (b.room + 1).toNat - q.1) (0, F) 3 ⟨by dsimp only; omega, hF⟩ rfl rfl ⟨rfl, rfl, rfl, rfl, rfl, rfl, rfl, trivial⟩ ?_
   rintro ⟨n, F⟩ ⟨hn, hF⟩
   dsimp only at hn hF ⊢
   have hgn := hgo n
   have hlow : ∀ F' : Nat -> Nat -> Bool, ∀ z ∈ ([.grow 173 false ((matF (b.months.length + 1) 121 F').map (arrF .bool)), .cells [.gr 0 (b.months.length + 1)], .cells [natA m]] : List Blk), z.low 3 = true := fun F' z hz => by
    simp only [List.mem_cons, List.not_mem_nil, or_false] at hz
    rcases hz with rfl | rfl | rfl <;> first | exact jh (fun _ => rfl) | rfl
   have hlL : ∀ n' : Nat, ∀ z ∈ ([(0, dskA b), (3, .pim [.fn g caps]), (4, .sl true []), (5, .ptr 1 0), (6, .ptr 2 0), (33, .int .i64 (b.room + 1)), (34, natA n')] : List (Nat × AV)), z.2.low 3 = true := fun n' z hz => by
    simp only [List.mem_cons, List.not_mem_nil, or_false] at hz
    rcases hz with rfl | rfl | rfl | rfl | rfl | rfl | rfl <;> first | exact dskL b | rfl | exact AV.low_mono (Nat.zero_le _) (show (AV.pim [.fn g caps]).low 0 = true by simp only [AV.low, lowL, hf.lo]; rfl)
   have hput := fun v hv => hF.put (v := v) hkm hv
   rw [show b.months.length - k = m by omega] at hput
   conv => whnf
   repeat' first | ((with_reducible first | refine XBr.y fun h => ?_ | refine XBr.n fun h => ?_ | refine XBr.dec (fun h => ?_) fun h => ?_ | refine XBr.y1 fun h => ?_ | refine XBr.n1 fun h => ?_ | refine XBr.beq (fun h => ?_) fun h => ?_ | refine XInt.a ?_ | apply Chk.go | apply ChkA.go | apply ChkF.go | apply ChkB.go | apply zw.mk) <;> conv => whnf) | (with_reducible first | apply XBr.not | apply XAnd.mk | exact trivial) | (exact zd.mk rfl rfl) | (apply Walk.drawN (id := 8) zb zg [] [8, 9] (hsC [_, _, _]) [_, _, _, _, _, _, _, _, _, _] (by kernel_rfl) rfl) | (apply Walk.drawN (id := 13) zb zg [] [13] (hsC [_, _]) [_, _, _, _, _, _, _, _, _, _, _, _, _, _] (by kernel_rfl) rfl) | ((first | refine zh.mk ⟨by simp only [matF, List.length_map, zj], rfl, by omega, by omega⟩ ?_ | refine XArr.mk (by omega) (by omega) ?_ | refine yA ?_ | refine zN.mat m n _ (by omega) rfl rfl (by omega) (by omega) (by omega) rfl ?_ | refine za.ret hgn ?_); conv => whnf) | fail
   ·obtain rfl : k = 0 := by omega
    refine yk.go (n + 1, updM F m n (agB b p m n)) [.cells [.bool ((m : Int) == ((b.months.map moA).length : Int))]] ⟨by dsimp only; omega, hput _ (by unfold ahB; rw [show b.months.length = m by omega])⟩ (by dsimp only; omega) rfl ⟨rfl, rfl, rfl, rfl, rfl, rfl, rfl, trivial⟩ (Nat.le_refl _) (hlow _) (hlL _) (by simp) (by simp)
   ·have hm1 : m < b.months.length := by omega
    refine za.ret (j7 b ok.toBedOk m n hm1) ?_
    conv => whnf
    refine Walk.range (own := []) zb [(5, .ptr 1 0), (6, .ptr 2 0), (8, .ptr 3 0)] rfl ⟨rfl, rfl, rfl, trivial⟩ ?_
    intro fn
    refine jJ b ok.toBedOk m n _ hm1 (by omega) _ _ ?_
    obtain ⟨k', rfl⟩ : ∃ k', k = k' + 1 := ⟨k - 1, by omega⟩
    have hrd := fun (c : Nat) (hc : (c : Int) <= b.room) => hF.read hkm (j := c) (by omega) hc
    rw [show b.months.length - k' = m + 1 by omega] at hrd
    refine wh.go (S := Bool) (fun s => [.grow 173 false ((matF (b.months.length + 1) 121 F).map (arrF .bool)), .cells [.gr 0 (b.months.length + 1)], .cells [natA m], .cells [.bool s], .raw (.deferred (some [])), .lp .ready none fn [(5, .ptr 1 0), (6, .ptr 2 0), (8, .ptr 3 0)] #[51] _ _ _]) (fun s c => s || F (m + 1) c) (fun _ cs => ∀ c ∈ cs, (c : Int) <= b.room) ((m : Int) == ((b.months.map moA).length : Int)) rfl ?_ (fun c hc => by have := (jQ.1 hc).2; have := qz ok.toBedOk (n := n) hm1; omega) ?_
    ·intro s c cs hcs
     have hc := hcs c List.mem_cons_self
     refine ⟨jH.go (own := []) zb rfl rfl (by decide) ?_, fun c' hc' => hcs c' (List.mem_cons_of_mem _ hc')⟩
     intro ρ
     conv => whnf
     cases s
     ·skip
      repeat' first | ((first | (with_reducible first | apply XBr.ff | refine XInt.a ?_) | (first | refine zh.mk ⟨by simp only [matF, List.length_map, zj], rfl, by omega, by omega⟩ ?_ | refine XArr.mk (by omega) (by omega) ?_ | refine XGet.mat rfl (by omega) ?_ | refine kZ c (by omega) (by omega) ?_)); conv => whnf) | fail
      exact ⟨rfl, rfl⟩
     ·skip
      repeat' ((with_reducible apply XBr.tt); conv => whnf)
      exact ⟨rfl, rfl⟩
    ·have hfold : (lvL b m n).foldl (fun s c => s || F (m + 1) c) ((m : Int) == ((b.months.map moA).length : Int)) = (lvL b m n).any (ahB b p k') := by
      rw [qN, beq_eq_false_iff_ne.2 (by omega), Bool.false_or]
      refine q8 fun c hc => hrd c ?_
      have := (jQ.1 hc).2; have := qz ok.toBedOk (n := n) hm1; omega
     rw [hfold]
     have hah : ahB b p (k' + 1) n = ((lvL b m n).any (ahB b p k') && agB b p m n) := by rw [ahB, show b.months.length - (k' + 1) = m by omega]
     rw [hah] at hput
     generalize (lvL b m n).any (ahB b p k') = s at hput
     cases s <;> (conv => whnf)
     all_goals
      repeat' first | ((with_reducible first | apply XBr.tt | apply XBr.ff | refine XInt.a ?_ | apply Chk.go | apply ChkA.go | apply ChkF.go | apply ChkB.go | apply zw.mk); conv => whnf) | (with_reducible first | apply XAnd.mk | exact trivial) | (exact zd.mk rfl rfl) | (apply Walk.drawN (id := 13) zb zg [] [13] (hsC [_, _]) [_, _, _, _, _, _, _, _, _, _, _, _, _, _] (by kernel_rfl) rfl) | ((first | refine zh.mk ⟨by simp only [matF, List.length_map, zj], rfl, by omega, by omega⟩ ?_ | refine XArr.mk (by omega) (by omega) ?_ | refine yA ?_ | refine zN.mat m n _ (by omega) rfl rfl (by omega) (by omega) (by omega) rfl ?_ | refine za.ret hgn ?_); conv => whnf) | fail
     ·exact yk.go (n + 1, updM F m n false) [.cells [.bool false], .raw (.deferred (some [])), .dead] ⟨by dsimp only; omega, hput _ rfl⟩ (by dsimp only; omega) rfl ⟨rfl, rfl, rfl, rfl, rfl, rfl, rfl, trivial⟩ (Nat.le_refl _) (hlow _) (hlL _) (by simp) (fun i hi => by rw [List.mem_singleton] at hi; subst hi; exact ⟨show 3 <= 3 + 1 by omega, rfl⟩)
     ·exact yk.go (n + 1, updM F m n (agB b p m n)) [.cells [.bool true], .raw (.deferred (some [])), .dead] ⟨by dsimp only; omega, hput _ rfl⟩ (by dsimp only; omega) rfl ⟨rfl, rfl, rfl, rfl, rfl, rfl, rfl, trivial⟩ (Nat.le_refl _) (hlow _) (hlL _) (by simp) (fun i hi => by rw [List.mem_singleton] at hi; subst hi; exact ⟨show 3 <= 3 + 1 by omega, rfl⟩)
   ·refine yk.go (true, (m : Int), k + 1, (m : Int) - 1, F) [] ⟨by dsimp only; omega, by dsimp only; omega, hF.next (by omega)⟩ (by dsimp only; omega) rfl ⟨rfl, rfl, rfl, rfl, rfl, trivial⟩ (show (3 : Nat) <= 4 by decide) ?_ ?_ (by simp) (by simp)
    ·intro z hz
     simp only [List.mem_append, List.mem_cons, List.not_mem_nil, or_false, cond_true] at hz
     rcases hz with (rfl | rfl) | rfl | rfl <;> first | exact jh (fun _ => rfl) | rfl
    ·intro z hz
     simp only [List.mem_cons, List.not_mem_nil, or_false] at hz
     rcases hz with rfl | rfl | rfl | rfl | rfl <;> first | exact dskL b | rfl | exact AV.low_mono (Nat.zero_le _) (show (AV.pim [.fn g caps]).low 0 = true by simp only [AV.low, lowL, hf.lo]; rfl)
  ·obtain rfl : k = b.months.length + 1 := by omega
   exact za1 b p F hF rfl
 ·conv => whnf
  repeat' ((with_reducible first | refine XBr.y fun h => ?_ | refine XBr.n fun h => ?_ | refine XBr.dec (fun h => ?_) fun h => ?_ | refine XInt.a ?_) <;> conv => whnf)
  ·obtain ⟨m, rfl⟩ : ∃ m : Nat, mz = m := ⟨mz.toNat, by omega⟩
   have hkm : k <= b.months.length := by omega
   have hgo := agr m
   refine Walk.loopM zb [] (fun q : Nat × (Nat -> Nat -> Bool) => (q.1 : Int) <= b.room + 1 /\ AhI b p k q.1 q.2) (fun q => [(0, dskA b), (3, .pim [.fn g caps]), (4, .sl true []), (5, .ptr 1 0), (6, .ptr 3 0), (33, .int .i64 (b.room + 1)), (34, natA q.1)])
    (fun q => [.grow 173 false ((matF (b.months.length + 1) 121 q.2).map (arrF .bool)), .cells [.gr 0 (b.months.length + 1)], .cells [.int .i64 jz], .cells [natA m]]) (fun q => (b.room + 1).toNat - q.1) (0, F) 4 ⟨by dsimp only; omega, hF⟩ rfl rfl ⟨rfl, rfl, rfl, rfl, rfl, rfl, rfl, trivial⟩ ?_
   rintro ⟨n, F⟩ ⟨hn, hF⟩
   dsimp only at hn hF ⊢
   have hgn := hgo n
   have hlow : ∀ F' : Nat -> Nat -> Bool, ∀ z ∈ ([.grow 173 false ((matF (b.months.length + 1) 121 F').map (arrF .bool)), .cells [.gr 0 (b.months.length + 1)], .cells [.int .i64 jz], .cells [natA m]] : List Blk), z.low 4 = true := fun F' z hz => by
    simp only [List.mem_cons, List.not_mem_nil, or_false] at hz
    rcases hz with rfl | rfl | rfl | rfl <;> first | exact jh (fun _ => rfl) | rfl
   have hlL : ∀ n' : Nat, ∀ z ∈ ([(0, dskA b), (3, .pim [.fn g caps]), (4, .sl true []), (5, .ptr 1 0), (6, .ptr 3 0), (33, .int .i64 (b.room + 1)), (34, natA n')] : List (Nat × AV)), z.2.low 4 = true := fun n' z hz => by
    simp only [List.mem_cons, List.not_mem_nil, or_false] at hz
    rcases hz with rfl | rfl | rfl | rfl | rfl | rfl | rfl <;> first | exact dskL b | rfl | exact AV.low_mono (Nat.zero_le _) (show (AV.pim [.fn g caps]).low 0 = true by simp only [AV.low, lowL, hf.lo]; rfl)
   have hput := fun v hv => hF.put (v := v) hkm hv
   rw [show b.months.length - k = m by omega] at hput
   conv => whnf
   repeat' first | ((with_reducible first | refine XBr.y fun h => ?_ | refine XBr.n fun h => ?_ | refine XBr.dec (fun h => ?_) fun h => ?_ | refine XBr.y1 fun h => ?_ | refine XBr.n1 fun h => ?_ | refine XBr.beq (fun h => ?_) fun h => ?_ | refine XInt.a ?_ | apply Chk.go | apply ChkA.go | apply ChkF.go | apply ChkB.go | apply zw.mk) <;> conv => whnf) | (with_reducible first | apply XBr.not | apply XAnd.mk | exact trivial) | (exact zd.mk rfl rfl) | (apply Walk.drawN (id := 8) zb zg [] [8, 9] (hsC [_, _, _]) [_, _, _, _, _, _, _, _, _, _] (by kernel_rfl) rfl) | (apply Walk.drawN (id := 13) zb zg [] [13] (hsC [_, _]) [_, _, _, _, _, _, _, _, _, _, _, _, _, _] (by kernel_rfl) rfl) | ((first | refine zh.mk ⟨by simp only [matF, List.length_map, zj], rfl, by omega, by omega⟩ ?_ | refine XArr.mk (by omega) (by omega) ?_ | refine yA ?_ | refine zN.mat m n _ (by omega) rfl rfl (by omega) (by omega) (by omega) rfl ?_ | refine za.ret hgn ?_); conv => whnf) | fail
   ·obtain rfl : k = 0 := by omega
    refine yk.go (n + 1, updM F m n (agB b p m n)) [.cells [.bool ((m : Int) == ((b.months.map moA).length : Int))]] ⟨by dsimp only; omega, hput _ (by unfold ahB; rw [show b.months.length = m by omega])⟩ (by dsimp only; omega) rfl ⟨rfl, rfl, rfl, rfl, rfl, rfl, rfl, trivial⟩ (Nat.le_refl _) (hlow _) (hlL _) (by simp) (by simp)
   ·have hm1 : m < b.months.length := by omega
    refine za.ret (j7 b ok.toBedOk m n hm1) ?_
    conv => whnf
    refine Walk.range (own := []) zb [(5, .ptr 1 0), (6, .ptr 3 0), (8, .ptr 4 0)] rfl ⟨rfl, rfl, rfl, trivial⟩ ?_
    intro fn
    refine jJ b ok.toBedOk m n _ hm1 (by omega) _ _ ?_
    obtain ⟨k', rfl⟩ : ∃ k', k = k' + 1 := ⟨k - 1, by omega⟩
    have hrd := fun (c : Nat) (hc : (c : Int) <= b.room) => hF.read hkm (j := c) (by omega) hc
    rw [show b.months.length - k' = m + 1 by omega] at hrd
    refine wh.go (S := Bool) (fun s => [.grow 173 false ((matF (b.months.length + 1) 121 F).map (arrF .bool)), .cells [.gr 0 (b.months.length + 1)], .cells [.int .i64 jz], .cells [natA m], .cells [.bool s], .raw (.deferred (some [])), .lp .ready none fn [(5, .ptr 1 0), (6, .ptr 3 0), (8, .ptr 4 0)] #[51] _ _ _]) (fun s c => s || F (m + 1) c) (fun _ cs => ∀ c ∈ cs, (c : Int) <= b.room) ((m : Int) == ((b.months.map moA).length : Int)) rfl ?_ (fun c hc => by have := (jQ.1 hc).2; have := qz ok.toBedOk (n := n) hm1; omega) ?_
    ·intro s c cs hcs
     have hc := hcs c List.mem_cons_self
     refine ⟨jH.go (own := []) zb rfl rfl (by decide) ?_, fun c' hc' => hcs c' (List.mem_cons_of_mem _ hc')⟩
     intro ρ
     conv => whnf
     cases s
     ·skip
      repeat' first | ((first | (with_reducible first | apply XBr.ff | refine XInt.a ?_) | (first | refine zh.mk ⟨by simp only [matF, List.length_map, zj], rfl, by omega, by omega⟩ ?_ | refine XArr.mk (by omega) (by omega) ?_ | refine XGet.mat rfl (by omega) ?_ | refine kZ c (by omega) (by omega) ?_)); conv => whnf) | fail
      exact ⟨rfl, rfl⟩
     ·skip
      repeat' ((with_reducible apply XBr.tt); conv => whnf)
      exact ⟨rfl, rfl⟩
    ·have hfold : (lvL b m n).foldl (fun s c => s || F (m + 1) c) ((m : Int) == ((b.months.map moA).length : Int)) = (lvL b m n).any (ahB b p k') := by
      rw [qN, beq_eq_false_iff_ne.2 (by omega), Bool.false_or]
      refine q8 fun c hc => hrd c ?_
      have := (jQ.1 hc).2; have := qz ok.toBedOk (n := n) hm1; omega
     rw [hfold]
     have hah : ahB b p (k' + 1) n = ((lvL b m n).any (ahB b p k') && agB b p m n) := by rw [ahB, show b.months.length - (k' + 1) = m by omega]
     rw [hah] at hput
     generalize (lvL b m n).any (ahB b p k') = s at hput
     cases s <;> (conv => whnf)
     all_goals
      repeat' first | ((with_reducible first | apply XBr.tt | apply XBr.ff | refine XInt.a ?_ | apply Chk.go | apply ChkA.go | apply ChkF.go | apply ChkB.go | apply zw.mk); conv => whnf) | (with_reducible first | apply XAnd.mk | exact trivial) | (exact zd.mk rfl rfl) | (apply Walk.drawN (id := 13) zb zg [] [13] (hsC [_, _]) [_, _, _, _, _, _, _, _, _, _, _, _, _, _] (by kernel_rfl) rfl) | ((first | refine zh.mk ⟨by simp only [matF, List.length_map, zj], rfl, by omega, by omega⟩ ?_ | refine XArr.mk (by omega) (by omega) ?_ | refine yA ?_ | refine zN.mat m n _ (by omega) rfl rfl (by omega) (by omega) (by omega) rfl ?_ | refine za.ret hgn ?_); conv => whnf) | fail
     ·exact yk.go (n + 1, updM F m n false) [.cells [.bool false], .raw (.deferred (some [])), .dead] ⟨by dsimp only; omega, hput _ rfl⟩ (by dsimp only; omega) rfl ⟨rfl, rfl, rfl, rfl, rfl, rfl, rfl, trivial⟩ (Nat.le_refl _) (hlow _) (hlL _) (by simp) (fun i hi => by rw [List.mem_singleton] at hi; subst hi; exact ⟨show 4 <= 4 + 1 by omega, rfl⟩)
     ·exact yk.go (n + 1, updM F m n (agB b p m n)) [.cells [.bool true], .raw (.deferred (some [])), .dead] ⟨by dsimp only; omega, hput _ rfl⟩ (by dsimp only; omega) rfl ⟨rfl, rfl, rfl, rfl, rfl, rfl, rfl, trivial⟩ (Nat.le_refl _) (hlow _) (hlL _) (by simp) (fun i hi => by rw [List.mem_singleton] at hi; subst hi; exact ⟨show 4 <= 4 + 1 by omega, rfl⟩)
   ·refine yk.move (true, jz, k + 1, (m : Int) - 1, F) [.grow 173 false ((matF (b.months.length + 1) 121 F).map (arrF .bool)), .cells [.gr 0 (b.months.length + 1)], .cells [.int .i64 jz]] (.cells [natA m]) (.cells [.int .i64 ((m : Int) - 1)]) 6 [(0, dskA b), (3, .pim [.fn g caps]), (4, .sl true []), (5, .ptr 1 0)] ⟨by dsimp only; omega, by dsimp only; omega, hF.next (by omega)⟩ (by dsimp only; omega) rfl rfl rfl ⟨rfl, rfl, rfl, rfl, trivial⟩ rfl (show (3 : Nat) <= 3 by decide) ?_ rfl ?_
    ·intro z hz
     simp only [List.mem_cons, List.not_mem_nil, or_false] at hz
     rcases hz with rfl | rfl | rfl <;> first | exact jh (fun _ => rfl) | rfl
    ·intro z hz
     simp only [List.mem_cons, List.not_mem_nil, or_false] at hz
     rcases hz with rfl | rfl | rfl | rfl <;> first | exact dskL b | rfl | exact AV.low_mono (Nat.zero_le _) (show (AV.pim [.fn g caps]).low 0 = true by simp only [AV.low, lowL, hf.lo]; rfl)
  ·obtain rfl : k = b.months.length + 1 := by omega
   exact za1 b p F hF rfl
end GA
end
section
namespace GA
open Go Go.RowKit Go.Proofs
def cnB (b : Bd) (p : Nat -> Bool) : Nat -> Nat -> Bool
 | 0, n => ahF b p 0 n && inZ n (b.first - b.unsure) (b.first + b.unsure)
 | m + 1, k => (List.range 121).any (fun n => cnB b p m n && (lvL b m n).contains k) && ahF b p (m + 1) k
def CnI (b : Bd) (p : Nat -> Bool) (m n : Nat) (F : Nat -> Nat -> Bool) : Prop :=
 ∀ i, i <= b.months.length -> ∀ j, j < 121 -> F i j = if i <= m then cnB b p i j else if i = m + 1 then (List.range n).any (fun q => cnB b p m q && (lvL b m q).contains j) && ahF b p i j else false
theorem CnI.next {b : Bd} {p : Nat -> Bool} {m : Nat} {F : Nat -> Nat -> Bool} (h : CnI b p m 121 F) : CnI b p (m + 1) 0 F := by
 intro i hi j hj
 rw [h i hi j hj]
 by_cases h1 : i <= m
 ·rw [if_pos h1, if_pos (by omega)]
 ·rw [if_neg h1]
  by_cases h2 : i = m + 1
  ·subst h2; rw [if_pos rfl, if_pos (Nat.le_refl _), cnB]
  ·rw [if_neg h2, if_neg (by omega)]
   split
   ·simp
   ·rfl
theorem za6 (G : Nat -> Bool) (r : Nat) : ∀ (l : List Nat) (F : Nat -> Nat -> Bool) (i j : Nat), l.foldl (fun F c => updM F r c (G c)) F i j = if i = r /\ l.contains j = true then G j else F i j
 | [], F, i, j => by simp
 | c :: l, F, i, j => by
   rw [List.foldl_cons, za6 G r l]
   unfold updM
   simp only [List.contains_cons]
   by_cases h1 : i = r
   ·by_cases h2 : l.contains j = true
    ·rw [if_pos ⟨h1, h2⟩, if_pos ⟨h1, by rw [h2, Bool.or_true]⟩]
    ·rw [if_neg (fun e => h2 e.2)]
     by_cases h3 : j = c
     ·rw [if_pos ⟨h1, h3⟩, if_pos ⟨h1, by rw [h3]; simp⟩, h3]
     ·rw [if_neg (fun e => h3 e.2), if_neg (fun e => h3 (by have := e.2; rw [Bool.eq_false_iff.2 h2, Bool.or_false] at this; simpa using this))]
   ·rw [if_neg (fun e => h1 e.1), if_neg (fun e => h1 e.1), if_neg (fun e => h1 e.1)]
theorem CnI.step {b : Bd} {p : Nat -> Bool} {m n : Nat} {F : Nat -> Nat -> Bool} (h : CnI b p m n F) : CnI b p m (n + 1) (if cnB b p m n = true then (lvL b m n).foldl (fun F c => updM F (m + 1) c (ahF b p (m + 1) c)) F else F) := by
 intro i hi j hj
 have h0 := h i hi j hj
 rw [List.range_succ, List.any_append, List.any_cons, List.any_nil, Bool.or_false]
 by_cases hc : cnB b p m n = true
 ·rw [if_pos hc, za6, hc, Bool.true_and]
  by_cases h1 : i = m + 1
  ·subst h1
   rw [if_neg (show ¬ m + 1 <= m by omega), if_pos rfl] at h0 ⊢
   by_cases h2 : (lvL b m n).contains j = true
   ·rw [if_pos ⟨rfl, h2⟩, h2, Bool.or_true, Bool.true_and]
   ·rw [if_neg (fun e => h2 e.2), h0, Bool.eq_false_iff.2 h2, Bool.or_false]
  ·rw [if_neg (fun e => h1 e.1), h0]
   by_cases h2 : i <= m
   ·rw [if_pos h2, if_pos h2]
   ·rw [if_neg h2, if_neg h2, if_neg h1, if_neg h1]
 ·rw [if_neg hc, Bool.eq_false_iff.2 hc, Bool.false_and, Bool.or_false, h0]
theorem yr {b : Bd} {p : Nat -> Bool} : ∀ {m n : Nat}, cnB b p m n = true -> (n : Int) <= b.room
 | 0, n, h => by unfold cnB ahF at h; simp only [Bool.and_eq_true, decide_eq_true_eq] at h; exact h.1.1
 | m + 1, n, h => by unfold cnB ahF at h; simp only [Bool.and_eq_true, decide_eq_true_eq] at h; exact h.2.1
theorem amt_low (F : Nat -> Nat -> Bool) (N n : Nat) : (Blk.grow 173 false ((matF N 121 F).map (arrF .bool))).low n = true := jh fun _ => rfl
theorem fR (F : Nat -> Nat -> Bool) (N n : Nat) : (Blk.cells [.sl false ((matF N 121 F).map (arrF .bool))]).low n = true := by
 show (lowL n _ && true) = true
 rw [Bool.and_true]; exact jh fun _ => rfl
theorem can_c (b : Bd) (ok : BdK b) (g : FuncId) (caps : List AV) (p : Nat -> Bool) (hf : Flt b g caps p) : Comp Tryz.prog 101 [dskA b, fltA g caps] (.sl false ((matF (b.months.length + 1) 121 (cnB b p)).map (arrF .bool))) := by
 have m1 := ok.m1
 have m2 := ok.m2
 have r1 := ok.r1
 have r2 := ok.r2
 have f1 := ok.f1
 have f2 := ok.f2
 have u1 := ok.u1
 have u2 := ok.u2
 have e1 : ((b.months.map moA).length : Int) = b.months.length := by rw [List.length_map]
 have e2 : (((matF (b.months.length + 1) 121 (ahF b p)).map (arrF AV.bool)).length : Int) = b.months.length + 1 := by rw [List.length_map, matF, zj]; omega
 have e3 : ((matF (b.months.length + 1) 121 (ahF b p)).length : Int) = b.months.length + 1 := by rw [matF, zj]; omega
 have hah := ahead_c b ok g caps p hf
 refine Comp.body (T := tab) (res := [.tmp 4]) zb [] Tryz.func101 rfl (by kernel_rfl) Tryz.ntmps101 rfl (by simp only [List.length_cons, List.length_nil]; decide) (by simp only [lowL, AV.low, dskL, fltA, hf.lo]; rfl) ?_; conv => whnf
 repeat' first | ((first | (with_reducible refine XInt.a ?_) | (first | refine zh.a ?_ | refine za.ret hah ?_)); conv => whnf) | fail
 refine Walk.loopK zb [] [(0, _), (4, _), (5, _), (6, _), (23, _)] ⟨rfl, rfl, rfl, rfl, rfl, trivial⟩ (fun q : Nat × (Nat -> Nat -> Bool) => (q.1 : Int) <= b.room + 1 /\ ∀ i, i <= b.months.length -> ∀ j, j < 121 -> q.2 i j = if i = 0 /\ j < q.1 then cnB b p 0 j else false) (fun q => [(24, natA q.1)])
  (fun q => [.cells [.sl false ((matF (b.months.length + 1) 121 (ahF b p)).map (arrF .bool))], .grow 173 false ((matF (b.months.length + 1) 121 q.2).map (arrF .bool)), .cells [.gr 1 (b.months.length + 1)]]) (fun q => (b.room + 1).toNat - q.1) (0, fun _ _ => false) ⟨by dsimp only; omega, fun i _ j _ => by dsimp only; rw [if_neg (by omega)]⟩ ?_ ⟨rfl, trivial⟩ ?_
 ·show _ = [Blk.cells [.sl false ((matF (b.months.length + 1) 121 (ahF b p)).map (arrF .bool))], Blk.grow _ false (List.replicate (((matF (b.months.length + 1) 121 (ahF b p)).map (arrF AV.bool)).length : Int).toNat _), Blk.cells [.gr 1 (((matF (b.months.length + 1) 121 (ahF b p)).map (arrF AV.bool)).length : Int).toNat]]
  rw [e2, show ((b.months.length : Int) + 1).toNat = b.months.length + 1 by omega, mat0]
 ·rintro ⟨n, F⟩ ⟨hn, hF⟩
  dsimp only at hn hF ⊢
  have hv : n < 121 -> ∀ v, v = cnB b p 0 n -> ∀ i, i <= b.months.length -> ∀ j, j < 121 -> updM F 0 n v i j = if i = 0 /\ j < n + 1 then cnB b p 0 j else false := fun hn v hv i hi j hj => by
   unfold updM
   by_cases h1 : i = 0 /\ j = n
   ·rw [if_pos h1, if_pos ⟨h1.1, by omega⟩, hv, h1.2]
   ·rw [if_neg h1, hF i hi j hj]
    by_cases h2 : i = 0 /\ j < n
    ·rw [if_pos h2, if_pos ⟨h2.1, by omega⟩]
    ·rw [if_neg h2, if_neg (by omega)]
  have hcn : cnB b p 0 n = (ahF b p 0 n && inZ n (b.first - b.unsure) (b.first + b.unsure)) := rfl
  rw [hcn] at hv
  have hrd : ∀ h : ahF b p 0 n = true \/ ahF b p 0 n = false, True := fun _ => trivial
  conv => whnf
  refine XBr.mk' ?_ ?_ <;> intro hlt <;> (conv => whnf)
  ·have hlt' : (n : Int) < b.room + 1 := by simpa using hlt
   generalize hs : ahF b p 0 n = s at hv
   cases s
   all_goals
    repeat' first | ((with_reducible first | apply XBr.tt | apply XBr.ff | refine XInt.a ?_ | apply Chk.go | apply ChkA.go | apply ChkF.go | apply ChkB.go | apply zw.mk); conv => whnf) | (with_reducible first | apply XAnd.mk | exact trivial) | (exact zd.mk rfl rfl) | (apply Walk.drawN (id := 6) zb zg [] [35] (hsC [_, _]) [_, _, _, _, _, _, _, _, _, _, _, _, _, _, _, _, _, _, _, _, _, _, _, _, _, _, _, _, _, _, _, _, _, _, _, _] (by kernel_rfl) rfl) | ((first | (refine XIx.mat 0 rfl (by omega) rfl ?_) | ((refine XArr.vec n rfl (by omega) (by omega) ?_); rw [hs]) | (first | refine zh.mk ⟨by simp only [matF, List.length_map, zj], rfl, by omega, by omega⟩ ?_ | refine XArr.mk (by omega) (by omega) ?_ | refine yA ?_ | refine zN.mat 0 n _ (by omega) rfl rfl (by omega) (by omega) (by omega) rfl ?_ | refine za.ret (y8 _ _ _) ?_)); conv => whnf) | fail
    exact zk.go (n + 1, updM F 0 n _) ⟨by dsimp only; omega, hv (by omega) _ rfl⟩ (by dsimp only; omega) rfl ⟨rfl, rfl, rfl, rfl, rfl, rfl, trivial⟩
  ·have hn2 : (n : Int) = b.room + 1 := by have := hlt; simp at this; omega
   have hF0 : CnI b p 0 0 F := fun i hi j hj => by
    rw [hF i hi j hj]
    by_cases h1 : i = 0
    ·subst h1
     rw [if_pos (Nat.le_refl 0)]
     by_cases h2 : j < n
     ·rw [if_pos ⟨rfl, h2⟩]
     ·rw [if_neg (fun e => h2 e.2)]
      cases hc : cnB b p 0 j
      ·rfl
      ·exact absurd (yr hc) (by omega)
    ·rw [if_neg (fun e => h1 e.1), if_neg (by omega)]
     split <;> simp
   clear hF hv hrd hcn
   skip
   refine Walk.loopGK zb [] [(0, _), (4, _), (5, _), (6, _), (68, _)] ⟨rfl, rfl, rfl, rfl, rfl, trivial⟩ (fun q : Nat × (Nat -> Nat -> Bool) => q.1 <= b.months.length /\ CnI b p q.1 0 q.2) (fun q => [(69, natA q.1)])
    (fun q => [.cells [.sl false ((matF (b.months.length + 1) 121 (ahF b p)).map (arrF .bool))], .grow 173 false ((matF (b.months.length + 1) 121 q.2).map (arrF .bool)), .cells [.gr 1 (b.months.length + 1)]]) (fun q => b.months.length - q.1) (0, F) ⟨Nat.zero_le _, hF0⟩ rfl ⟨rfl, trivial⟩ ?_ ?_ ?_
   ·intro q _
    refine ⟨fun z hz => ?_, fun z hz => ?_⟩
    ·simp only [List.mem_cons, List.not_mem_nil, or_false] at hz
     rcases hz with rfl | rfl | rfl
     ·exact fR _ _ _
     ·exact amt_low _ _ _
     ·rfl
    ·simp only [List.cons_append, List.nil_append, List.mem_cons, List.not_mem_nil, or_false] at hz
     rcases hz with rfl | rfl | rfl | rfl | rfl | rfl <;> first | exact dskL b | rfl
   ·intro q _; exact (show (3 : Nat) <= 3 from Nat.le_refl 3)
   clear hF0 hlt hn hn2
   rintro ⟨m, F0⟩ ⟨hm, hF0⟩
   dsimp only at hm hF0 ⊢
   conv => whnf
   repeat' first | ((with_reducible first | refine XBr.y fun h => ?_ | refine XBr.n fun h => ?_ | refine XBr.dec (fun h => ?_) fun h => ?_) <;> conv => whnf) | ((first | refine zh.mk ⟨by simp only [matF, List.length_map, zj], rfl, by omega, by omega⟩ ?_ | refine XGet.mat rfl (by omega) ?_ | refine ka rfl ?_); conv => whnf) | fail
   ·have hm1 : m < b.months.length := by omega
    have hv : vecF 121 (F0 m) = vecF 121 (cnB b p m) := zy fun j hj => by rw [hF0 m (by omega) j hj, if_pos (Nat.le_refl m)]
    refine Walk.loopM zb [] (fun q : Nat × (Nat -> Nat -> Bool) => q.1 <= 121 /\ CnI b p m q.1 q.2) (fun q => [(0, dskA b), (4, .sl true []), (5, .ptr 0 0), (6, .ptr 2 0), (8, .ptr 3 0), (68, .int .i64 (b.months.map moA).length), (69, natA m), (75, .agg ((vecF 121 (cnB b p m)).map .bool)), (76, natA q.1)])
     (fun q => [.cells [.sl false ((matF (b.months.length + 1) 121 (ahF b p)).map (arrF .bool))], .grow 173 false ((matF (b.months.length + 1) 121 q.2).map (arrF .bool)), .cells [.gr 1 (b.months.length + 1)], .cells [natA m]]) (fun q => 121 - q.1) (0, F0) 4 ⟨Nat.zero_le _, hF0⟩ rfl rfl ⟨rfl, rfl, rfl, rfl, rfl, rfl, rfl, ?_, rfl, trivial⟩ ?_
    ·rw [<- hv]; rfl
    have hlow : ∀ F' : Nat -> Nat -> Bool, ∀ z ∈ ([.cells [.sl false ((matF (b.months.length + 1) 121 (ahF b p)).map (arrF .bool))], .grow 173 false ((matF (b.months.length + 1) 121 F').map (arrF .bool)), .cells [.gr 1 (b.months.length + 1)], .cells [natA m]] : List Blk), z.low 4 = true := fun F' z hz => by
     simp only [List.mem_cons, List.not_mem_nil, or_false] at hz
     rcases hz with rfl | rfl | rfl | rfl
     ·exact fR _ _ _
     ·exact amt_low _ _ _
     ·rfl
     ·rfl
    have hlL : ∀ n' : Nat, ∀ z ∈ ([(0, dskA b), (4, .sl true []), (5, .ptr 0 0), (6, .ptr 2 0), (8, .ptr 3 0), (68, .int .i64 (b.months.map moA).length), (69, natA m), (75, .agg ((vecF 121 (cnB b p m)).map .bool)), (76, natA n')] : List (Nat × AV)), z.2.low 4 = true := fun n' z hz => by
     simp only [List.mem_cons, List.not_mem_nil, or_false] at hz
     rcases hz with rfl | rfl | rfl | rfl | rfl | rfl | rfl | rfl | rfl <;> first | exact dskL b | rfl | exact g8 fun _ => rfl
    rintro ⟨n, F⟩ ⟨hn, hF⟩
    dsimp only at hn hF ⊢
    have hst := hF.step
    generalize hc : cnB b p m n = s at hst
    conv => whnf
    repeat' first | ((with_reducible first | refine XBr.y fun h => ?_ | refine XBr.n fun h => ?_ | refine XBr.dec (fun h => ?_) fun h => ?_ | refine XInt.a ?_) <;> conv => whnf) | (refine zh.a ?_; conv => whnf) | ((first | ((refine kZ n (by omega) (by omega) ?_); rw [hc]) | (refine za.ret (j7 b ok.toBedOk m n hm1) ?_)); conv => whnf) | ((with_reducible refine XBr.mk' (fun h => ?_) fun h => ?_) <;> conv => whnf) | fail
    ·subst h
     have hr := yr hc
     refine Walk.range (own := []) zb [(5, .ptr 0 0), (6, .ptr 2 0), (8, .ptr 3 0)] rfl ⟨rfl, rfl, rfl, trivial⟩ ?_
     intro fn
     refine jJ b ok.toBedOk m n _ hm1 (by omega) _ _ ?_
     refine wh.go (S := Nat -> Nat -> Bool) (fun F' => [.cells [.sl false ((matF (b.months.length + 1) 121 (ahF b p)).map (arrF .bool))], .grow 173 false ((matF (b.months.length + 1) 121 F').map (arrF .bool)), .cells [.gr 1 (b.months.length + 1)], .cells [natA m], .raw (.deferred (some [])), .lp .ready none fn [(5, .ptr 0 0), (6, .ptr 2 0), (8, .ptr 3 0)] #[85] _ _ _]) (fun F' c => updM F' (m + 1) c (ahF b p (m + 1) c)) (fun _ cs => ∀ c ∈ cs, (c : Int) <= b.room) F rfl ?_ (fun c hc => by have := (jQ.1 hc).2; have := qz ok.toBedOk (n := n) hm1; omega) ?_
     ·intro F' c cs hcs
      have hc := hcs c List.mem_cons_self
      refine ⟨jH.go (own := []) zb rfl rfl (by decide) ?_, fun c' hc' => hcs c' (List.mem_cons_of_mem _ hc')⟩
      intro ρ
      conv => whnf
      repeat' first | ((with_reducible first | refine XInt.a ?_ | apply Chk.go | apply ChkA.go | apply ChkF.go | apply ChkB.go | apply zw.mk); conv => whnf) | (with_reducible first | apply XAnd.mk | exact trivial) | (exact zd.mk rfl rfl) | (apply Walk.drawN (id := 17) zb zg [] [13] (hsC [_, _]) [_, _, _, _, _, _, _, _, _, _, _, _, _, _] (by kernel_rfl) rfl) | ((first | refine XIx.mat (m + 1) (by omega) (by omega) rfl ?_ | refine XArr.vec c rfl (by omega) (by omega) ?_ | refine zh.mk ⟨by simp only [matF, List.length_map, zj], rfl, by omega, by omega⟩ ?_ | refine XArr.mk (by omega) (by omega) ?_ | refine yA ?_ | refine zN.mat (m + 1) c _ (by omega) rfl rfl (by omega) (by omega) (by omega) rfl ?_); conv => whnf) | fail
      exact ⟨rfl, rfl⟩
     ·rw [if_pos rfl] at hst
      conv => whnf
      repeat' ((with_reducible refine XInt.a ?_); conv => whnf)
      exact yk.go (n + 1, _) [.raw (.deferred (some [])), .dead] ⟨by dsimp only; omega, hst⟩ (by dsimp only; omega) rfl ⟨rfl, rfl, rfl, rfl, rfl, rfl, rfl, rfl, rfl, trivial⟩ (Nat.le_refl _) (hlow _) (hlL _) (by simp) (fun i hi => by rw [List.mem_singleton] at hi; subst hi; exact ⟨show 4 <= 4 by omega, rfl⟩)
    ·subst h
     rw [if_neg (by simp)] at hst
     exact yk.go (n + 1, F) [] ⟨by dsimp only; omega, hst⟩ (by dsimp only; omega) rfl ⟨rfl, rfl, rfl, rfl, rfl, rfl, rfl, rfl, rfl, trivial⟩ (Nat.le_refl _) (hlow _) (hlL _) (by simp) (by simp)
    ·obtain rfl : n = 121 := by omega
     exact zp.go (m + 1, F) [.cells [natA m]] ⟨by dsimp only; omega, hF.next⟩ (by dsimp only; omega) rfl ⟨rfl, rfl, rfl, rfl, rfl, rfl, trivial⟩
   ·obtain rfl : m = b.months.length := by omega
    have e : matF (b.months.length + 1) 121 (cnB b p) = matF (b.months.length + 1) 121 F0 := fX fun i hi j hj => by rw [hF0 i (by omega) j hj, if_pos (by omega)]
    rw [e]
    exact ⟨Froz.grow (i := 1) rfl (by simp only [matF, List.length_map, zj]) (jh fun _ => rfl)⟩
end GA
end
