/- Part 2 of a proof: AbsM, AbsE, AbsP, AbsC, Abs10, Abs11, Abs12, Abs13, Abs14, Abs15. -/
import Derived.Test.YtnjobcijpmnloaaGreatP1
import Derived.MapKept
import Derived.RangeFuncRecord
import Derived.Laws.StructEq
import Derived.ChangeKeysEq
import Derived.WideKeyRuns
import Derived.Laws.CopyRow
set_option linter.unusedVariables false
set_option linter.unusedSimpArgs false
set_option maxRecDepth 8000
section
namespace GA
open Go Go.RowKit
def mapT (P : Program) (t : TypeId) : Option AV:=
 match P.underlying t with
 | some (.map k e)=>match P.underlying k with | some (.int .i64)=>z6 P e | _=>none
 | _=>none
def mput (n : Int) (v : AV) : List (Int × AV) -> List (Int × AV)
 | []=>[(n,v)]
 | (m,u) :: l=>if m = n then (m,v) :: l else (m,u) :: mput n v l
def mget (n : Int) : List (Int × AV) -> Option AV
 | []=>none
 | (m,u) :: l=>if m = n then some u else mget n l
def zbI (H : List Blk) (k : AV -> List Blk -> Prop) : Prop:=k (.mp H.length) (H ++ [.map []])
def mres (ok : Bool) (z : AV) : Option AV -> AV
 | some v=>if ok then .tup [v,.bool true] else v
 | none=>if ok then .tup [z,.bool false] else z
def zdr (H : List Blk) (z : AV) (ok : Bool) (n : Int) (es : List (Int × AV)) (k : AV -> Prop) : Prop:=
 k (mres ok z (mget n es)) \/ (ok = false /\ z = .sl true [] /\ mget n es = none /\ ∃ i te,H[i]? = some (.grow te true []) /\ k (.gr i 0))
def q8 (P : Program) (t : TypeId) (H : List Blk) (x i : AV) (ok : Bool) (k : AV -> Prop) : Prop:=
 bnd (mapT P t) fun z=>match x,i with
 | .mp b,.int .i64 n=>match H[b]? with | some (.map es)=>zdr H z ok n es k | _=>False
 | .im ks vs,.int .i64 n=>zdr H z ok n (ks.zip vs) k
 | _,_=>False
def vh (P : Program) (t : TypeId) (H : List Blk) (x i v : AV) (k : AV -> List Blk -> Prop) : Prop:=
 bnd (mapT P t) fun _=>match x,i with
 | .mp b,.int .i64 n=>match H[b]? with | some (.map es)=>k (.tup []) (H.set b (.map (mput n v es))) | _=>False
 | _,_=>False
theorem zby (n : Int) (v : AV) : ∀ es : List (Int × AV),(es.map (·.1)).Nodup -> ((mput n v es).map (·.1)).Nodup /\ ∀ m,m ∈ (mput n v es).map (·.1) -> m = n \/ m ∈ es.map (·.1)
 | [],_=>by simp [mput]
 | (m,u) :: l,h=>by
   simp only [List.map_cons,List.nodup_cons] at h
   unfold mput;split
   ·rename_i e;simp only [List.map_cons,List.nodup_cons];exact ⟨h,fun q hq=>.inr hq⟩
   ·rename_i e
    obtain ⟨h1,h2⟩:=zby n v l h.2
    simp only [List.map_cons,List.nodup_cons]
    refine ⟨⟨fun hm=>?_,h1⟩,fun q hq=>?_⟩
    ·rcases h2 m hm with rfl | h3
     ·exact e rfl
     ·exact h.1 h3
    ·rcases List.mem_cons.1 hq with rfl | hq
     ·exact .inr (by simp)
     ·rcases h2 q hq with h3 | h3
      ·exact .inl h3
      ·exact .inr (List.mem_cons_of_mem _ h3)
theorem ju (n : Int) : ∀ (es : List (Int × AV)) (le : List Go.MapEntry) (i : Nat),le.map (·.key) = es.map (fun p=>Value.int .i64 p.1) ->
  (Instr.findNow (.int .i64) (.int .i64 n) le i = some none /\ mget n es = none /\ ∀ v,mput n v es = es ++ [(n,v)]) \/
  ∃ j e x,Instr.findNow (.int .i64) (.int .i64 n) le i = some (some (i + j,e.val)) /\ le[j]? = some e /\ es[j]? = some (n,x) /\ mget n es = some x /\ ∀ v,mput n v es = es.set j (n,v)
 | [],[],i,_=>.inl ⟨rfl,rfl,fun _=>rfl⟩
 | (m,u) :: es,e :: le,i,h=>by
   simp only [List.map_cons,List.cons.injEq] at h
   obtain ⟨h1,h2⟩:=h
   by_cases hm : n = m
   ·subst hm
    refine .inr ⟨0,e,u,?_,rfl,rfl,by simp [mget],fun v=>by simp [mput]⟩
    simp [Instr.findNow,Instr.sameNow,h1]
   ·have hs : Instr.findNow (.int .i64) (.int .i64 n) (e :: le) i = Instr.findNow (.int .i64) (.int .i64 n) le (i + 1):=by
     have : (n == m) = false:=by simpa using hm
     simp [Instr.findNow,Instr.sameNow,h1,this]
    have hm' : ¬ m = n:=fun e=>hm e.symm
    rcases ju n es le (i + 1) h2 with ⟨g1,g2,g3⟩ | ⟨j,e',x,g1,g2,g3,g4,g5⟩
    ·exact .inl ⟨hs.trans g1,by simp [mget,hm',g2],fun v=>by simp [mput,hm',g3]⟩
    ·exact .inr ⟨j + 1,e',x,by rw [hs,g1];congr 3;omega,by simpa using g2,by simpa using g3,by simp [mget,hm',g4],fun v=>by simp [mput,hm',g5]⟩
 | [],_ :: _,_,h=>by simp at h
 | _ :: _,[],_,h=>by simp at h
section
variable {P : Program} {E : Env} {h : Nat -> Option Obj} {β : Nat -> Value} {H : List Blk} {w : World}
theorem gH {t : TypeId} {z : AV} (e : mapT P t = some z) : ∃ k el i zv,P.underlying t = some (.map k el) /\ P.underlying k = some (.int .i64) /\ P.info? el = some i /\ i.zero = some zv /\ toAV zv = some z:=by
 unfold mapT at e;split at e
 ·rename_i k el h1
  split at e
  ·rename_i h2
   unfold z6 at e
   cases h3 : P.info? el with
   | none=>simp [h3] at e
   | some i =>
     cases h4 : i.zero with
     | none=>simp [h3,h4] at e
     | some zv=>simp [h3,h4] at e;exact ⟨k,el,i,zv,h1,h2,h3,h4,e⟩
  ·cases e
 ·cases e
theorem fD (s : SR P E h β H w) {t : TypeId} {k : AV -> List Blk -> Prop} (hk : zbI H k) : zl P E h β H (Instr.makeMap t none) w k:=by
 obtain ⟨s',X⟩:=s.push (w':=w.alloc (.map #[] 0)) s.env (fun k hk=>Below.heap_alloc _ _ _ hk) (.map (some w.heap.size)) (.map []) (by simp [anchor])
  (fun X=>⟨w.heap.size,#[],0,by simp [upb],heap_alloc_new w _,by simp,rfl,fun _=>undef,by simp⟩)
 refine ⟨_,_,_,_,h,_,?_,hk,X,s',.mp (r:=w.heap.size) (.push rfl) (fun _ _=>by simp [upb])⟩
 simp [Instr.makeMap]
theorem gj {es : List (Int × AV)} {ents : Array Go.MapEntry} (k : kO P h β H es ents) : ents.toList.map (·.key) = es.map (fun p=>Value.int .i64 p.1):=by
 obtain ⟨h1,us,h2⟩:=k
 apply List.ext_getElem?
 intro j
 rw [List.getElem?_map,List.getElem?_map]
 cases he : es[j]? with
 | none =>
   have : ents.toList[j]? = none:=by rw [List.getElem?_eq_none_iff] at he ⊢;simpa [h1] using he
   rw [this];rfl
 | some p =>
   obtain ⟨q,x⟩:=p
   obtain ⟨_,born,h3⟩:=h2 j q x he
   have : ents.toList[j]? = some { key:=.int .i64 q,val:=us j,born:=born }:=by simpa using h3
   rw [this];rfl
theorem mp_blk (s : SR P E h β H w) {i : Nat} {v : Value} {es : List (Int × AV)} (hx : Rep P h β H (.mp i) v) (hi : H[i]? = some (.map es)) :
  ∃ r ents clock,v = .map (some r) /\ β i = .map (some r) /\ w.heap[r]? = some (.map ents clock) /\ (es.map (·.1)).Nodup /\ kO P h β H es ents:=by
 cases hx with
 | @mp _ r hl hb =>
   have hβ:=hb _ hi rfl
   obtain ⟨r',ents,clock,h1,h2,h3,h4⟩:=s.blk i _ hi
   rw [hβ] at h1;cases h1
   exact ⟨r,ents,clock,rfl,hβ,h2,h3,h4⟩
theorem jh {k : TypeId} {d : TypeDesc} {x : Value} {es : List Go.MapEntry} {r : Option (Nat × Value)} (hd : P.underlying k = some d) (e : Instr.findNow d x es 0 = some r) : (Instr.findKey k x es).run P w = .ok r w:=by
 simp [Instr.findKey,run_underlying hd,e]
theorem kJ {k : TypeId} {q : IntKind} {n : Int} {b : Bool} {d : Nat} (hd : P.underlying k = some (.int q)) : (Instr.checkKey b (d + 1) k (.int q n)).run P w = .ok () w:=by
 simp [Instr.checkKey,run_underlying hd]
theorem im_blk (s : SR P E h β H w) {ks : List Int} {vs : List AV} {v : Value} (hx : Rep P h β H (.im ks vs) v) :
  ∃ r ents clock,v = .map (some r) /\ w.heap[r]? = some (.map ents clock) /\ kO P h β H (ks.zip vs) ents:=by
 cases hx with
 | @im _ _ r ents clock us hb hl hk hnd hc hr =>
   refine ⟨r,ents,clock,rfl,s.imm _ _ hb,by rw [List.length_zip,hl,Nat.min_self];exact hk,us,fun j q x e=>?_⟩
   rw [List.getElem?_zip_eq_some] at e
   exact ⟨hr j x e.2,hc j q x e.1 e.2⟩
theorem za8 (s : SR P E h β H w) {t : TypeId} {ok : Bool} {k : AV -> Prop} {n : Int} {z : AV} {es : List (Int × AV)} {r : Nat} {ents : Array Go.MapEntry} {clock : Nat} {kt el : TypeId} {ie : TypeInfo} {zv : Value} (h1 : P.underlying t = some (.map kt el)) (h2 : P.underlying kt = some (.int .i64)) (h3 : P.info? el = some ie) (h4 : ie.zero = some zv) (h5 : toAV zv = some z)
  (hr : w.heap[r]? = some (.map ents clock)) (hE : kO P h β H es ents) (hk : zdr H z ok n es k) :
  zl P E h β H (Instr.lookup t (.map (some r)) (.int .i64 n) ok) w (fun r H'=>H' = H /\ k r):=by
 have hzr : Rep P h β H z zv:=k5 h5
 have hrun : ∀ res,Instr.findNow (.int .i64) (.int .i64 n) ents.toList 0 = some res ->
   (Instr.lookup t (.map (some r)) (.int .i64 n) ok).run P w = .ok (match res with | some (_,v)=>(if ok then .tuple #[v,.bool true] else v) | none=>if ok then .tuple #[zv,.bool false] else zv) w:=by
  intro res he
  unfold Instr.lookup
  simp only [Sem.run_bind,run_underlying h1,Result.andThen_ok,MapKept.run_getObj_map hr,Sem.run_pure,kJ h2,jh h2 he]
  cases res with
  | none=>cases ok <;> simp [zeroValue,typeInfo,h3,h4]
  | some p=>obtain ⟨j,v⟩:=p;cases ok <;> simp
 rcases hk with hk | ⟨rfl,rfl,hg,i,te,hi',hk⟩
 rotate_left
 ·rcases ju n es ents.toList 0 (gj hE) with ⟨g1,g2,g3⟩ | ⟨j,e,x,g1,g2,g3,g4,g5⟩
  ·have hr2:=hrun _ g1
   obtain rfl : zv = .slice none 0 0:=by cases hzr;rfl
   have hb0 : β i = .slice none 0 0:=by
    rcases s.blk i _ hi' with ⟨_,_,h8⟩ | ⟨h6,_⟩ | ⟨h6,_⟩
    ·exact h8
    ·cases h6
    ·cases h6
   have hrep : Rep P h β H (.gr i 0) (.slice none 0 0):=.gr rfl (live.of hi' rfl) fun t nl els e=>by rw [hi'] at e;cases e;exact ⟨Nat.le_refl _,fun _=>hb0.symm⟩
   exact zl.pure s hr2 hrep ⟨rfl,hk⟩
  ·rw [hg] at g4;cases g4
 rcases ju n es ents.toList 0 (gj hE) with ⟨g1,g2,g3⟩ | ⟨j,e,x,g1,g2,g3,g4,g5⟩
 ·have hr2:=hrun _ g1
  rw [g2] at hk
  cases ok with
  | false=>exact zl.pure s hr2 hzr ⟨rfl,hk⟩
  | true=>exact zl.pure s hr2 (.tup (fun j=>if j = 0 then zv else .bool false) rfl (fun j x e=>by
    match j,e with
    | 0,e=>simp at e;simp
    | 1,e=>simp at e;simp) (fun j x e=>by
    match j,e with
    | 0,e=>simp at e;subst e;simpa using hzr
    | 1,e=>simp at e;subst e;simpa using Rep.bool false)) ⟨rfl,hk⟩
 ·have hr2:=hrun _ g1
  rw [g4] at hk
  obtain ⟨_,us,hus⟩:=hE
  obtain ⟨q1,born,q2⟩:=hus j n x g3
  have : e.val = us j:=by
   have : ents.toList[j]? = some { key:=.int .i64 n,val:=us j,born:=born }:=by simpa using q2
   rw [this] at g2;cases g2;rfl
  have hxr : Rep P h β H x e.val:=by rw [this];exact q1
  cases ok with
  | false=>exact zl.pure s hr2 hxr ⟨rfl,hk⟩
  | true=>exact zl.pure s hr2 (.tup (fun j=>if j = 0 then e.val else .bool true) rfl (fun j x e=>by
    match j,e with
    | 0,e=>simp at e;simp
    | 1,e=>simp at e;simp) (fun j x e=>by
    match j,e with
    | 0,e=>simp at e;subst e;simpa using hxr
    | 1,e=>simp at e;subst e;simpa using Rep.bool true)) ⟨rfl,hk⟩
theorem zaK (s : SR P E h β H w) {t : TypeId} {x i : AV} {u v : Value} {ok : Bool} {k : AV -> Prop} (hx : Rep P h β H x u) (hi : Rep P h β H i v) (hk0 : q8 P t H x i ok k) :
  zl P E h β H (Instr.lookup t u v ok) w (fun r H'=>H' = H /\ k r):=by
 obtain ⟨z,hz,hk⟩:=zd hk0
 clear hk0
 obtain ⟨kt,el,ie,zv,h1,h2,h3,h4,h5⟩:=gH hz
 split at hk
 ·rename_i b n
  split at hk
  case h_2=>exact hk.elim
  rename_i es hb
  cases z9 hi
  obtain ⟨r,ents,clock,rfl,_,hr,hnd,hE⟩:=mp_blk s hx hb
  exact za8 s h1 h2 h3 h4 h5 hr hE hk
 ·rename_i ks vs n
  cases z9 hi
  obtain ⟨r,ents,clock,rfl,hr,hE⟩:=im_blk s hx
  exact za8 s h1 h2 h3 h4 h5 hr hE hk
 ·exact hk.elim
theorem kO.val {es : List (Int × AV)} {ents : Array Go.MapEntry} (k : kO P h β H es ents) : ents.size = es.length /\ ∀ (j : Nat) q x,es[j]? = some (q,x) -> ∃ e,ents[j]? = some e /\ e.key = .int .i64 q /\ Rep P h β H x e.val:=by
 obtain ⟨h1,us,h2⟩:=k
 refine ⟨h1,fun j q x e=>?_⟩
 obtain ⟨h3,born,h4⟩:=h2 j q x e
 exact ⟨_,h4,rfl,h3⟩
theorem kO.of {es : List (Int × AV)} {ents : Array Go.MapEntry} (h1 : ents.size = es.length) (h2 : ∀ (j : Nat) q x,es[j]? = some (q,x) -> ∃ e,ents[j]? = some e /\ e.key = .int .i64 q /\ Rep P h β H x e.val) : kO P h β H es ents:=by
 refine ⟨h1,fun j=>match ents[j]? with | some e=>e.val | none=>undef,fun j q x e=>?_⟩
 obtain ⟨e',h3,h4,h5⟩:=h2 j q x e
 refine ⟨by simp only [h3];exact h5,e'.born,?_⟩
 simp only [h3];cases e';simp only at h4;subst h4;rfl
theorem fC (s : SR P E h β H w) {t : TypeId} {x i r : AV} {u v y : Value} {k : AV -> List Blk -> Prop} (hx : Rep P h β H x u) (hi : Rep P h β H i v) (hr : Rep P h β H r y) (hk0 : vh P t H x i r k) :
  ∃ w' H' h' β',(Instr.mapUpdate t u v y).run P w = .ok () w' /\ k (.tup []) H' /\ Ext h β H h' β' H' /\ SR P E h' β' H' w':=by
 obtain ⟨z,hz,hk⟩:=zd hk0
 clear hk0
 obtain ⟨kt,el,ie,zv,h1,h2,h3,h4,h5⟩:=gH hz
 split at hk
 case h_2=>exact hk.elim
 rename_i b n
 split at hk
 case h_2=>exact hk.elim
 rename_i es hb
 cases z9 hi
 obtain ⟨rr,ents,clock,rfl,hβ,hrr,hnd,hE⟩:=mp_blk s hx hb
 have hlt : rr < w.heap.size:=(Array.getElem?_eq_some_iff.1 hrr).1
 have hbo : blkOf β H b = some rr:=by simp only [blkOf,hb,hβ];rfl
 have hnd':=(zby n r es hnd).1
 obtain ⟨q1,q2⟩:=hE.val
 have go : ∀ ents' clock',(Instr.mapUpdate t (.map (some rr)) (.int .i64 n) y).run P w = .ok () (w.putObj rr (.map ents' clock')) ->
   (∀ h' β' H',Ext h β H h' β' H' -> kO P h' β' H' (mput n r es) ents') -> ∃ w' H' h' β',(Instr.mapUpdate t (.map (some rr)) (.int .i64 n) y).run P w = .ok () w' /\ k (.tup []) H' /\ Ext h β H h' β' H' /\ SR P E h' β' H' w':=by
  intro ents' clock' hrun hents
  obtain ⟨s',X⟩:=s.modify (β':=β) (w':=w.putObj rr (.map ents' clock')) (x':=.map (mput n r es)) hb (fun _ _=>rfl) (.inr ⟨_,rfl,rfl⟩) s.env
   (fun q _ hn=>World.putObj_heap_other (fun e=>hn (by rw [hbo,e]))) (fun b0 e=>.inl (by rw [hbo];rw [hβ] at e;exact e))
   (fun X=>⟨rr,ents',clock',hβ,World.putObj_heap_same hlt,hnd',hents _ _ _ X⟩)
  exact ⟨_,_,_,_,hrun,hk,X,s'⟩
 rcases ju n es ents.toList 0 (gj hE) with ⟨g1,g2,g3⟩ | ⟨j,e,x0,g1,g2,g3,g4,g5⟩
 ·refine go (ents.push { key:=.int .i64 n,val:=y,born:=clock }) (clock + 1) ?_ ?_
  ·unfold Instr.mapUpdate
   simp [Sem.run_bind,run_underlying h1,MapKept.run_getObj_map hrr,kJ h2,jh h2 g1,MapKept.run_setObj_map _ hrr,World.putObj]
  ·intro h' β' H' X
   rw [g3]
   refine .of (by simp [q1]) fun j q x e=>?_
   rcases Nat.lt_or_ge j es.length with hj | hj
   ·rw [List.getElem?_append_left hj] at e
    obtain ⟨e',p1,p2,p3⟩:=q2 j q x e
    exact ⟨e',by rw [Array.getElem?_push];rw [if_neg (by omega)];exact p1,p2,X.rep p3⟩
   ·rw [List.getElem?_append_right hj] at e
    have hj' : j = es.length:=by have:=(List.getElem?_eq_some_iff.1 e).1;simp at this;omega
    subst hj';simp at e;obtain ⟨rfl,rfl⟩:=e
    exact ⟨{ key:=.int .i64 n,val:=y,born:=clock },by rw [Array.getElem?_push];rw [if_pos (by omega)],rfl,X.rep hr⟩
 ·rw [Nat.zero_add] at g1
  have g2' : ents[j]? = some e:=by simpa using g2
  have hkey : e.key = .int .i64 n:=by
   obtain ⟨e',p1,p2,_⟩:=q2 j n x0 g3
   rw [g2'] at p1;cases p1;exact p2
  refine go (ents.modify j fun e=>{ e with key:=.int .i64 n,val:=y }) clock ?_ ?_
  ·unfold Instr.mapUpdate
   simp [Sem.run_bind,run_underlying h1,MapKept.run_getObj_map hrr,kJ h2,jh h2 g1,g2',hkey,Instr.keyThatStays,Instr.sameBits,MapKept.run_setObj_map _ hrr,World.putObj]
  ·intro h' β' H' X
   rw [g5]
   refine .of (by simp [q1]) fun m q x em=>?_
   by_cases hm : j = m
   ·subst hm
    rw [List.getElem?_set_self (List.getElem?_eq_some_iff.1 g3).1] at em
    cases em
    exact ⟨{ e with key:=.int .i64 n,val:=y },by rw [Array.getElem?_modify];simp [g2'],rfl,X.rep hr⟩
   ·rw [List.getElem?_set_ne hm] at em
    obtain ⟨e',p1,p2,p3⟩:=q2 m q x em
    exact ⟨e',by rw [Array.getElem?_modify,if_neg hm];exact p1,p2,X.rep p3⟩
end
end GA
end
section
namespace GA
open Go Go.RowKit
def kx (P : Program) (t : TypeId) : Bool:=match P.underlying t with | some (.int _)=>true | _=>false
def fM (P : Program) (t : TypeId) : Bool:=match P.underlying t with | some .bool=>true | _=>false
def flatS (P : Program) (t : TypeId) : Option Nat:=
 match P.underlying t with
 | some (.struct fs) => if !P.stoodInHeld t && (P.info? t).isSome && P.cellsOf t == fs.size && fs.toList.zipIdx.all (fun x => x.1.name != "_" && x.1.offset == x.2 && kx P x.1.type) then some fs.size else none
 | _=>none
def ge (P : Program) : List Field -> Nat -> Option Nat
 | [],i=>some i
 | f :: fs, i => if f.name != "_" && f.offset == i then (if kx P f.type then ge P fs (i + 1) else match flatS P f.type with | some n => ge P fs (i + n) | none => none) else none
def rowsT (P : Program) (e : TypeId) : Option Nat:=
 match P.underlying e with
 | some (.array m e2)=>if kx P e2 && (P.info? e2).isSome && P.cellsOf e2 == 1 && (P.info? e).isSome && P.cellsOf e == m then some m else none
 | _=>none
def wV (P : Program) (t : TypeId) : Option Nat:=
 if P.eqGuardType P.depth t then none else
 match P.underlying t with
 | some (.array n e)=>if kx P e && (P.info? e).isSome && P.cellsOf e == 1 then (if n < 1048576 then some n else none) else if fM P e && (P.info? e).isSome && P.cellsOf e == 1 then some (n + 1048576) else match rowsT P e with | some m=>if n * m < 1048576 then some (n * m) else none | none=>none
 | some (.struct fs)=>if P.stoodInHeld t then none else match ge P fs.toList 0 with | some n=>if n < 1048576 then some n else none | none=>none
 | _=>none
def opEqA (P : Program) (t : TypeId) (cs ds : List AV) (k : Bool -> Prop) : Prop:=
 (∃ qs bs : List Int,cs = qs.map (.int .i64) /\ ds = bs.map (.int .i64) /\ qs.length = bs.length /\ wV P t = some qs.length /\ qs.length < 1048576 /\ k (qs == bs)) \/
 (∃ qs bs : List Bool,cs = qs.map .bool /\ ds = bs.map .bool /\ qs.length = bs.length /\ wV P t = some (qs.length + 1048576) /\ k (qs == bs))
def zcq (P : Program) (t : TypeId) (op : BinOp) (x y : AV) (k : AV -> Prop) : Prop:=
 match op,x,y with
 | .eql,.agg cs,.agg ds=>opEqA P t cs ds fun b=>k (.bool b)
 | .neq,.agg cs,.agg ds=>opEqA P t cs ds fun b=>k (.bool !b)
 | _,_,_=>opBin P t op x y k
section
variable {P : Program} {E : Env} {h : Nat -> Option Obj} {β : Nat -> Value} {H : List Blk} {w : World}
theorem kZ {t : TypeId} (e : kx P t = true) : ∃ q,P.underlying t = some (.int q) /\ P.plainKey t = true:=by
 unfold kx at e;split at e
 ·rename_i q hq;exact ⟨q,hq,by simp [Program.plainKey,hq]⟩
 ·cases e
theorem zcY {t : TypeId} (e : fM P t = true) : P.underlying t = some .bool /\ P.plainKey t = true:=by
 unfold fM at e;split at e
 ·rename_i hq;exact ⟨hq,by simp [Program.plainKey,hq]⟩
 ·cases e
theorem vX {d : Nat} {e : TypeId} (he : fM P e = true) {xs ys : Array Value} : ∀ (n i : Nat) (qs bs : List Bool),qs.length = n -> bs.length = n ->
  (∀ (j : Nat) a,qs[j]? = some a -> xs[i + j]? = some (.bool a)) -> (∀ (j : Nat) a,bs[j]? = some a -> ys[i + j]? = some (.bool a)) ->
  (Op.eqItems (d + 1) e 1 xs ys (List.range' i n)).run P w = .ok (qs == bs) w
 | 0,i,[],[],_,_,_,_=>by simp [Op.eqItems]
 | n + 1,i,a :: qs,b :: bs,h1,h2,h3,h4=>by
   obtain ⟨hq,hp⟩:=zcY he
   have g1:=run_part_plain w hp (h3 0 a rfl)
   have g2:=run_part_plain w hp (h4 0 b rfl)
   rw [Nat.add_zero] at g1 g2
   have ih:=vX (d:=d) he n (i + 1) qs bs (by simpa using h1) (by simpa using h2) (fun j x e=>by have:=h3 (j + 1) x (by simpa using e);rwa [show i + (j + 1) = i + 1 + j by omega] at this) (fun j x e=>by have:=h4 (j + 1) x (by simpa using e);rwa [show i + (j + 1) = i + 1 + j by omega] at this)
   simp only [List.range'_succ,Op.eqItems,Sem.run_bind,Nat.mul_one,g1,g2,Result.andThen_ok,run_equalIn_bool' w d e a b hq]
   by_cases hab : a = b
   ·subst hab;simp [ih]
   ·have : (a == b) = false:=by simpa using hab
    have h2 : (a :: qs == b :: bs) = false:=by simp [hab]
    rw [this,h2];simp
 | 0,_,_ :: _,_,h,_,_,_=>by simp at h
 | 0,_,[],_ :: _,_,h,_,_=>by simp at h
 | n + 1,_,[],_,h,_,_,_=>by simp at h
 | n + 1,_,_ :: _,[],_,h,_,_=>by simp at h
theorem wO {d : Nat} {e : TypeId} (he : kx P e = true) {xs ys : Array Value} : ∀ (n i : Nat) (qs bs : List Int),qs.length = n -> bs.length = n ->
  (∀ (j : Nat) a,qs[j]? = some a -> xs[i + j]? = some (.int .i64 a)) -> (∀ (j : Nat) a,bs[j]? = some a -> ys[i + j]? = some (.int .i64 a)) ->
  (Op.eqItems (d + 1) e 1 xs ys (List.range' i n)).run P w = .ok (qs == bs) w
 | 0,i,[],[],_,_,_,_=>by simp [Op.eqItems]
 | n + 1,i,a :: qs,b :: bs,h1,h2,h3,h4=>by
   obtain ⟨q,hq,hp⟩:=kZ he
   have g1:=run_part_plain w hp (h3 0 a rfl)
   have g2:=run_part_plain w hp (h4 0 b rfl)
   rw [Nat.add_zero] at g1 g2
   have ih:=wO (d:=d) he n (i + 1) qs bs (by simpa using h1) (by simpa using h2) (fun j x e=>by have:=h3 (j + 1) x (by simpa using e);rwa [show i + (j + 1) = i + 1 + j by omega] at this) (fun j x e=>by have:=h4 (j + 1) x (by simpa using e);rwa [show i + (j + 1) = i + 1 + j by omega] at this)
   simp only [List.range'_succ,Op.eqItems,Sem.run_bind,Nat.mul_one,g1,g2,Result.andThen_ok,run_equalIn_int w d e .i64 q a b hq]
   by_cases hab : a = b
   ·subst hab;simp [ih]
   ·have : (a == b) = false:=by simpa using hab
    have h2 : (a :: qs == b :: bs) = false:=by simp [hab]
    rw [this,h2];simp
 | 0,_,_ :: _,_,h,_,_,_=>by simp at h
 | 0,_,[],_ :: _,_,h,_,_=>by simp at h
 | n + 1,_,[],_,h,_,_,_=>by simp at h
 | n + 1,_,_ :: _,[],_,h,_,_=>by simp at h
theorem zbe {e : TypeId} {m : Nat} (h : rowsT P e = some m) : ∃ e2 i i2,P.underlying e = some (.array m e2) /\ kx P e2 = true /\ P.info? e2 = some i2 /\ P.cellsOf e2 = 1 /\ P.info? e = some i /\ P.cellsOf e = m:=by
 unfold rowsT at h
 split at h
 ·rename_i m' e2 hu
  split at h
  ·rename_i hh
   simp only [Option.some.injEq] at h;subst h
   simp only [Bool.and_eq_true,beq_iff_eq] at hh
   obtain ⟨⟨⟨⟨h1,h2⟩,h3⟩,h4⟩,h5⟩:=hh
   cases hi : P.info? e with
   | none=>rw [hi] at h4;cases h4
   | some i =>
     cases hi2 : P.info? e2 with
     | none=>rw [hi2] at h2;cases h2
     | some i2=>exact ⟨e2,i,i2,hu,h1,hi2,h3,rfl,h5⟩
  ·cases h
 ·cases h
theorem vk {t e : TypeId} {m : Nat} {i : TypeInfo} {off : Nat} {xs : Array Value} (hu : P.underlying t = some (.array m e)) (hi : P.info? t = some i) : (part t xs off).run P w = .ok (.agg (xs.extract off (off + P.cellsOf t))) w:=by
 simp [part,isAgg,run_underlying hu,run_sizeOf w hi]
theorem beq_app2 {q1 q2 b1 b2 : List Int} (h : b1.length = q1.length) : (q1 ++ q2 == b1 ++ b2) = (q1 == b1 && q2 == b2):=by
 rw [Bool.eq_iff_iff,Bool.and_eq_true,beq_iff_eq,beq_iff_eq,beq_iff_eq]
 exact ⟨fun e=>List.append_inj e h.symm,fun e=>by rw [e.1,e.2]⟩
theorem qp {d m : Nat} {e : TypeId} (he : rowsT P e = some m) {xs ys : Array Value} : ∀ (n i : Nat) (qs bs : List Int),qs.length = n * m -> bs.length = n * m ->
  (∀ (j : Nat) a,qs[j]? = some a -> xs[i * m + j]? = some (.int .i64 a)) -> (∀ (j : Nat) a,bs[j]? = some a -> ys[i * m + j]? = some (.int .i64 a)) ->
  (Op.eqItems (d + 2) e m xs ys (List.range' i n)).run P w = .ok (qs == bs) w
 | 0,i,qs,bs,h1,h2,_,_=>by
   rw [Nat.zero_mul] at h1 h2
   rw [List.length_eq_zero_iff] at h1 h2
   subst h1 h2
   simp [Op.eqItems]
 | n + 1,i,qs,bs,h1,h2,h3,h4=>by
   obtain ⟨e2,ie,i2,hu,hint,hi2,hc2,hie,hce⟩:=zbe he
   have hnm : (n + 1) * m = m + n * m:=by rw [Nat.add_mul,Nat.one_mul,Nat.add_comm]
   rw [hnm] at h1 h2
   have q1:=List.take_append_drop m qs
   have q2:=List.take_append_drop m bs
   have l1 : (qs.take m).length = m:=by rw [List.length_take];omega
   have l2 : (bs.take m).length = m:=by rw [List.length_take];omega
   have ext : ∀ {zs : Array Value} {l : List Int},(∀ (j : Nat) a,l[j]? = some a -> zs[i * m + j]? = some (.int .i64 a)) -> ∀ (j : Nat) a,(l.take m)[j]? = some a -> (zs.extract (i * m) (i * m + m))[j]? = some (.int .i64 a):=fun {zs l} hz j a e=>by
    have hj : j < m:=by
     have:=(List.getElem?_eq_some_iff.1 e).1
     rw [List.length_take] at this;omega
    rw [List.getElem?_take,if_pos hj] at e
    have h5:=hz j a e
    have h6:=(Array.getElem?_eq_some_iff.1 h5).1
    rw [Array.getElem?_extract,if_pos (by omega)]
    exact h5
   have g1:=vk (w:=w) (off:=i * m) (xs:=xs) hu hie
   have g2:=vk (w:=w) (off:=i * m) (xs:=ys) hu hie
   rw [hce] at g1 g2
   have hin : (Op.equalIn (d + 2) e (.agg (xs.extract (i * m) (i * m + m))) (.agg (ys.extract (i * m) (i * m + m)))).run P w = .ok (qs.take m == bs.take m) w:=by
    rw [run_equalIn_array w (d + 1) _ _ hu hi2,hc2,List.range_eq_range']
    exact wO (d:=d) hint m 0 _ _ l1 l2 (fun j a e=>by rw [Nat.zero_add];exact ext h3 j a e) (fun j a e=>by rw [Nat.zero_add];exact ext h4 j a e)
   have nx : ∀ {zs : Array Value} {l : List Int},(∀ (j : Nat) a,l[j]? = some a -> zs[i * m + j]? = some (.int .i64 a)) -> ∀ (j : Nat) a,(l.drop m)[j]? = some a -> zs[(i + 1) * m + j]? = some (.int .i64 a):=fun {zs l} hz j a e=>by
    rw [List.getElem?_drop] at e
    have:=hz _ a e
    rwa [show i * m + (m + j) = (i + 1) * m + j by rw [Nat.add_mul,Nat.one_mul];omega] at this
   have ih:=qp (d:=d) he n (i + 1) (qs.drop m) (bs.drop m) (by rw [List.length_drop];omega) (by rw [List.length_drop];omega) (nx h3) (nx h4)
   have hq : (qs == bs) = (qs.take m == bs.take m && qs.drop m == bs.drop m):=by
    rw [<- beq_app2 (by rw [l1,l2]),q1,q2]
   rw [hq]
   simp only [List.range'_succ,Op.eqItems,Sem.run_bind,g1,g2,Result.andThen_ok,hin]
   cases (qs.take m == bs.take m) with
   | true=>simp [ih]
   | false=>simp
theorem j7 {d : Nat} {xs ys : Array Value} : ∀ (fs : List Field) (i : Nat) (qs bs : List Int), fs.length = qs.length -> bs.length = qs.length -> (∀ x ∈ fs.zipIdx i, x.1.name ≠ "_" /\ x.1.offset = x.2 /\ kx P x.1.type = true) ->
  (∀ (j : Nat) a,qs[j]? = some a -> xs[i + j]? = some (.int .i64 a)) -> (∀ (j : Nat) a,bs[j]? = some a -> ys[i + j]? = some (.int .i64 a)) ->
  (Op.eqFields (d + 1) xs ys fs).run P w = .ok (qs == bs) w
 | [],i,[],[],_,_,_,_,_=>by simp [Op.eqFields]
 | f :: fs,i,a :: qs,b :: bs,h1,h2,hf,h3,h4=>by
   obtain ⟨hn,ho,hi⟩:=hf (f,i) (by simp)
   simp only at hn ho hi
   obtain ⟨q,hq,hp⟩:=kZ hi
   have g1:=run_part_plain w hp (h3 0 a rfl)
   have g2:=run_part_plain w hp (h4 0 b rfl)
   rw [Nat.add_zero] at g1 g2
   have ih:=j7 (d:=d) fs (i + 1) qs bs (by simpa using h1) (by simpa using h2) (fun x hx=>hf x (by rw [List.zipIdx_cons];exact List.mem_cons_of_mem _ hx)) (fun j x e=>by have:=h3 (j + 1) x (by simpa using e);rwa [show i + (j + 1) = i + 1 + j by omega] at this) (fun j x e=>by have:=h4 (j + 1) x (by simpa using e);rwa [show i + (j + 1) = i + 1 + j by omega] at this)
   simp only [Op.eqFields,hn,ne_eq,not_false_eq_true,if_true,Sem.run_bind,ho,g1,g2,Result.andThen_ok,run_equalIn_int w d f.type .i64 q a b hq]
   by_cases hab : a = b
   ·subst hab;simp [ih]
   ·have : (a == b) = false:=by simpa using hab
    have h2 : (a :: qs == b :: bs) = false:=by simp [hab]
    rw [this,h2];simp
 | [],_,_ :: _,_,h,_,_,_,_=>by simp at h
 | [],_,[],_ :: _,_,h,_,_,_=>by simp at h
 | _ :: _,_,[],_,h,_,_,_,_=>by simp at h
 | _ :: _,_,_ :: _,[],_,h,_,_,_=>by simp at h
theorem qR : ∀ {fs : List Field} {i N : Nat},ge P fs i = some N -> i <= N
 | [],i,N,h=>by simp [ge] at h;omega
 | f :: fs,i,N,h=>by
   rw [ge] at h
   split at h
   case isFalse=>cases h
   split at h
   ·have:=qR h;omega
   ·split at h
    ·have:=qR h;omega
    ·cases h
theorem zeQ {t : TypeId} {n : Nat} (h : flatS P t = some n) : ∃ fs, P.underlying t = some (.struct fs) /\ fs.size = n /\ P.stoodInHeld t = false /\ (∃ i, P.info? t = some i) /\ P.cellsOf t = n /\ ∀ x ∈ fs.toList.zipIdx 0, x.1.name ≠ "_" /\ x.1.offset = x.2 /\ kx P x.1.type = true := by
 unfold flatS at h
 split at h
 ·rename_i fs hu
  split at h
  case isFalse=>cases h
  rename_i hh
  simp only [Bool.and_eq_true,Bool.not_eq_true',List.all_eq_true,bne_iff_ne,beq_iff_eq] at hh
  obtain ⟨⟨⟨h1,h2⟩,h3⟩,h4⟩:=hh
  cases h
  refine ⟨fs,hu,rfl,h1,?_,h3,fun x hx=>?_⟩
  ·cases hi : P.info? t with
   | none=>rw [hi] at h2;cases h2
   | some i=>exact ⟨i,rfl⟩
  ·obtain ⟨⟨a,b⟩,c⟩:=h4 x hx;exact ⟨a,b,c⟩
 ·cases h
theorem fF {t : TypeId} {fs : Array Field} {i : TypeInfo} {off : Nat} {xs : Array Value} (hu : P.underlying t = some (.struct fs)) (hi : P.info? t = some i) : (part t xs off).run P w = .ok (.agg (xs.extract off (off + P.cellsOf t))) w:=by
 simp [part,isAgg,run_underlying hu,run_sizeOf w hi]
theorem beq_app {q1 q2 b1 b2 : List Int} (h : b1.length = q1.length) : (q1 ++ q2 == b1 ++ b2) = (q1 == b1 && q2 == b2):=by
 rw [Bool.eq_iff_iff,Bool.and_eq_true,beq_iff_eq,beq_iff_eq,beq_iff_eq]
 exact ⟨fun e=>List.append_inj e h.symm,fun e=>by rw [e.1,e.2]⟩
theorem j5 {d : Nat} {xs ys : Array Value} : ∀ (fs : List Field) (i N : Nat) (qs bs : List Int),ge P fs i = some N -> i + qs.length = N -> bs.length = qs.length ->
  (∀ (j : Nat) a,qs[j]? = some a -> xs[i + j]? = some (.int .i64 a)) -> (∀ (j : Nat) a,bs[j]? = some a -> ys[i + j]? = some (.int .i64 a)) ->
  (Op.eqFields (d + 2) xs ys fs).run P w = .ok (qs == bs) w
 | [],i,N,qs,bs,h0,h1,h2,_,_=>by
   rw [ge] at h0
   have e : i = N:=by simpa using h0
   obtain rfl : qs = []:=List.eq_nil_of_length_eq_zero (by omega)
   obtain rfl : bs = []:=List.eq_nil_of_length_eq_zero (by simpa using h2)
   simp [Op.eqFields]
 | f :: fs,i,N,qs,bs,h0,h1,h2,h3,h4=>by
   rw [ge] at h0
   split at h0
   case isFalse=>cases h0
   rename_i hh
   simp only [Bool.and_eq_true,bne_iff_ne,beq_iff_eq] at hh
   obtain ⟨hn,ho⟩:=hh
   split at h0
   ·rename_i hi
    have hle:=qR h0
    obtain ⟨q,hq,hp⟩:=kZ hi
    cases qs with
    | nil=>exfalso;simp at h1;omega
    | cons a qs =>
    cases bs with
    | nil=>exfalso;simp at h2
    | cons b bs =>
    have g1:=run_part_plain w hp (h3 0 a rfl)
    have g2:=run_part_plain w hp (h4 0 b rfl)
    rw [Nat.add_zero] at g1 g2
    have ih:=j5 (d:=d) fs (i + 1) N qs bs h0 (by simp only [List.length_cons] at h1;omega) (by simpa using h2) (fun j x e=>by have:=h3 (j + 1) x (by simpa using e);rwa [show i + (j + 1) = i + 1 + j by omega] at this) (fun j x e=>by have:=h4 (j + 1) x (by simpa using e);rwa [show i + (j + 1) = i + 1 + j by omega] at this)
    simp only [Op.eqFields,hn,ne_eq,not_false_eq_true,if_true,Sem.run_bind,ho,g1,g2,Result.andThen_ok,run_equalIn_int w (d + 1) f.type .i64 q a b hq]
    by_cases hab : a = b
    ·subst hab;simp [ih]
    ·have : (a == b) = false:=by simpa using hab
     have h2 : (a :: qs == b :: bs) = false:=by simp [hab]
     rw [this,h2];simp
   ·split at h0
    case h_2=>cases h0
    rename_i n hs
    have hle:=qR h0
    obtain ⟨gs,hu,hgs,hst,⟨inf,hi⟩,hc,hfl⟩:=zeQ hs
    have e1 : qs = qs.take n ++ qs.drop n:=(List.take_append_drop n qs).symm
    have e2 : bs = bs.take n ++ bs.drop n:=(List.take_append_drop n bs).symm
    have l1 : (qs.take n).length = n:=by rw [List.length_take];omega
    have l2 : (bs.take n).length = n:=by rw [List.length_take];omega
    have ih:=j5 (d:=d) fs (i + n) N (qs.drop n) (bs.drop n) h0 (by rw [List.length_drop];omega) (by rw [List.length_drop,List.length_drop];omega)
     (fun j x e=>by rw [List.getElem?_drop] at e;have:=h3 (n + j) x e;rwa [show i + (n + j) = i + n + j by omega] at this)
     (fun j x e=>by rw [List.getElem?_drop] at e;have:=h4 (n + j) x e;rwa [show i + (n + j) = i + n + j by omega] at this)
    have hfo : P.fieldsOf f.type = gs:=by simp [Program.fieldsOf,hu]
    have ext : ∀ (zs : Array Value) (us : List Int),(∀ (j : Nat) a,us[j]? = some a -> zs[i + j]? = some (.int .i64 a)) -> ∀ (j : Nat) a,(us.take n)[j]? = some a -> (zs.extract i (i + P.cellsOf f.type))[0 + j]? = some (.int .i64 a):=fun zs us hz j a e=>by
     rw [List.getElem?_take] at e
     split at e
     case isFalse=>cases e
     rename_i hj
     have h5:=hz j a e
     rw [Nat.zero_add,hc,Array.getElem?_extract,if_pos (by
      have : i + j < zs.size:=by
       apply Classical.byContradiction
       intro hn
       rw [Array.getElem?_eq_none (by omega)] at h5;cases h5
      omega)]
     exact h5
    have hs1:=j7 (d:=d) (P:=P) (w:=w) (xs:=xs.extract i (i + P.cellsOf f.type)) (ys:=ys.extract i (i + P.cellsOf f.type)) gs.toList 0 (qs.take n) (bs.take n) (by rw [l1];simpa using hgs) (by rw [l1,l2]) hfl (ext xs qs h3) (ext ys bs h4)
    have hs2:=run_equalIn_struct w (d + 1) f.type (xs.extract i (i + P.cellsOf f.type)) (ys.extract i (i + P.cellsOf f.type)) (by rw [hfo];exact hu) hst
    rw [hfo,hs1] at hs2
    rw [e1,e2,beq_app (by rw [l1,l2])]
    simp only [Op.eqFields,hn,ne_eq,not_false_eq_true,if_true,Sem.run_bind,ho,fF hu hi,Result.andThen_ok,hs2]
    cases hb : (qs.take n == bs.take n)
    ·simp
    ·simp [ih]
theorem zdy {qs : List Int} {v : Value} (r : Rep P h β H (.agg (qs.map (.int .i64))) v) : ∃ xs,v = .agg xs /\ ∀ (j : Nat) a,qs[j]? = some a -> xs[j]? = some (.int .i64 a):=by
 cases r with
 | agg us hs hone hc hr =>
   refine ⟨_,rfl,fun j a e=>?_⟩
   have e' : (qs.map (AV.int .i64))[j]? = some (.int .i64 a):=by rw [List.getElem?_map,e];rfl
   rw [hc j _ e',z9 (hr j _ e')]
theorem zb0 {qs : List Bool} {v : Value} (r : Rep P h β H (.agg (qs.map .bool)) v) : ∃ xs,v = .agg xs /\ ∀ (j : Nat) a,qs[j]? = some a -> xs[j]? = some (.bool a):=by
 cases r with
 | agg us hs hone hc hr =>
   refine ⟨_,rfl,fun j a e=>?_⟩
   have e' : (qs.map AV.bool)[j]? = some (.bool a):=by rw [List.getElem?_map,e];rfl
   have h1 : ∀ v,Rep P h β H (.bool a) v -> v = .bool a:=fun v r=>by cases r;rfl
   rw [hc j _ e',h1 _ (hr j _ e')]
theorem zbR (s : SR P E h β H w) {t : TypeId} {cs ds : List AV} {u v : Value} {k : Bool -> Prop} (hx : Rep P h β H (.agg cs) u) (hy : Rep P h β H (.agg ds) v) (hk : opEqA P t cs ds k) :
  ∃ b,k b /\ (∀ op ox oy,(eqGuard op t ox oy u v).run P w = .ok () w) /\ (binOp .eql t u v).run P w = .ok (.bool b) w /\ (binOp .neq t u v).run P w = .ok (.bool !b) w:=by
 rcases hk with ⟨qs,bs,rfl,rfl,hl,hT,hlt,hk⟩ | ⟨qs,bs,rfl,rfl,hl,hT,hk⟩
 ·skip
  obtain ⟨xs,rfl,hxs⟩:=zdy hx
  obtain ⟨ys,rfl,hys⟩:=zdy hy
  have hg : P.eqGuardType P.depth t = false /\ (Op.equalIn 10000 t (.agg xs) (.agg ys)).run P w = .ok (qs == bs) w:=by
   unfold wV at hT
   split at hT
   ·cases hT
   ·rename_i hg
    refine ⟨by simpa using hg,?_⟩
    split at hT
    ·rename_i n e hu
     split at hT
     ·rename_i hh
      simp only [Bool.and_eq_true,beq_iff_eq] at hh
      obtain ⟨⟨h1,h2⟩,h3⟩:=hh
      split at hT
      case isFalse=>cases hT
      cases hT
      cases hi : P.info? e with
      | none=>rw [hi] at h2;cases h2
      | some i =>
        rw [run_equalIn_array w 9999 xs ys hu hi,h3,List.range_eq_range']
        exact wO (d:=9998) h1 qs.length 0 qs bs rfl hl.symm (fun j a e=>by rw [Nat.zero_add];exact hxs j a e) (fun j a e=>by rw [Nat.zero_add];exact hys j a e)
     ·split at hT
      ·simp only [Option.some.injEq] at hT;omega
      ·split at hT
       case h_2=>cases hT
       rename_i m hm
       split at hT
       case isFalse=>cases hT
       simp only [Option.some.injEq] at hT
       obtain ⟨e2,ie,i2,hu2,-,-,-,hie,hce⟩:=zbe hm
       rw [run_equalIn_array w 9999 xs ys hu hie,hce,List.range_eq_range']
       exact qp (d:=9997) hm n 0 qs bs (by omega) (by omega) (fun j a e=>by rw [Nat.zero_mul,Nat.zero_add];exact hxs j a e) (fun j a e=>by rw [Nat.zero_mul,Nat.zero_add];exact hys j a e)
    ·rename_i fs hu
     split at hT
     case isTrue=>cases hT
     rename_i hst
     have hfo : P.fieldsOf t = fs:=by simp [Program.fieldsOf,hu]
     split at hT
     case h_2=>cases hT
     rename_i n hfn
     split at hT
     case isFalse=>cases hT
     have hfs : n = qs.length:=by simpa using hT
     rw [run_equalIn_struct w 9999 t xs ys (by rw [hfo];exact hu) (by simpa using hst),hfo]
     exact j5 (d:=9997) fs.toList 0 n qs bs hfn (by omega) hl.symm (fun j a e=>by rw [Nat.zero_add];exact hxs j a e) (fun j a e=>by rw [Nat.zero_add];exact hys j a e)
    ·cases hT
  refine ⟨_,hk,fun op ox oy=>run_eqGuard_agg w op t ox oy xs ys hg.1,?_,?_⟩
  ·rw [run_eql_struct,hg.2];rfl
  ·rw [run_neq_struct,hg.2];rfl
 ·skip
  obtain ⟨xs,rfl,hxs⟩:=zb0 hx
  obtain ⟨ys,rfl,hys⟩:=zb0 hy
  have hg : P.eqGuardType P.depth t = false /\ (Op.equalIn 10000 t (.agg xs) (.agg ys)).run P w = .ok (qs == bs) w:=by
   unfold wV at hT
   split at hT
   ·cases hT
   ·rename_i hg
    refine ⟨by simpa using hg,?_⟩
    split at hT
    ·rename_i n e hu
     split at hT
     ·split at hT
      ·simp only [Option.some.injEq] at hT;omega
      ·cases hT
     ·split at hT
      ·rename_i hh
       simp only [Bool.and_eq_true,beq_iff_eq] at hh
       obtain ⟨⟨h1,h2⟩,h3⟩:=hh
       have hn : n = qs.length:=by simpa using hT
       subst hn
       cases hi : P.info? e with
       | none=>rw [hi] at h2;cases h2
       | some i =>
         rw [run_equalIn_array w 9999 xs ys hu hi,h3,List.range_eq_range']
         exact vX (d:=9998) h1 qs.length 0 qs bs rfl hl.symm (fun j a e=>by rw [Nat.zero_add];exact hxs j a e) (fun j a e=>by rw [Nat.zero_add];exact hys j a e)
      ·split at hT
       ·split at hT
        ·simp only [Option.some.injEq] at hT;omega
        ·cases hT
       ·cases hT
    ·split at hT
     ·cases hT
     ·split at hT
      ·split at hT
       ·have : _ = _:=hT;simp at this;omega
       ·cases hT
      ·cases hT
    ·cases hT
  refine ⟨_,hk,fun op ox oy=>run_eqGuard_agg w op t ox oy xs ys hg.1,?_,?_⟩
  ·rw [run_eql_struct,hg.2];rfl
  ·rw [run_neq_struct,hg.2];rfl
theorem zcH (s : SR P E h β H w) {t : TypeId} {op : BinOp} {x y : AV} {u v : Value} (hx : Rep P h β H x u) (hy : Rep P h β H y v) {k : AV -> Prop} (hk : zcq P t op x y k) (ox oy : Operand) :
  zl P E h β H (do eqGuard op t ox oy u v;binOp op t u v) w (fun r H'=>H' = H /\ k r):=by
 unfold zcq at hk
 split at hk
 ·obtain ⟨b,h1,h2,h3,h4⟩:=zbR s hx hy hk
  refine zl.pure s (r:=.bool b) ?_ (.bool _) ⟨rfl,h1⟩
  rw [Sem.run_bind,h2];exact h3
 ·obtain ⟨b,h1,h2,h3,h4⟩:=zbR s hx hy hk
  refine zl.pure s (r:=.bool !b) ?_ (.bool _) ⟨rfl,h1⟩
  rw [Sem.run_bind,h2];exact h4
 ·exact zep s hx hy hk ox oy
end
end GA
end
section
namespace GA
open Go Go.RowKit
def fo (P : Program) (t : TypeId) : Bool:=
 match P.underlying t with
 | some (.struct fs)=>match fs.toList with
   | [f, g] => !P.stoodInHeld t && f.name != "_" && g.name != "_" && f.offset == 0 && g.offset == 1 && kx P f.type && kx P g.type
   | _=>false
 | _=>false
def zbV (P : Program) (t : TypeId) : Option AV:=
 match P.underlying t with
 | some (.map k e)=>if fo P k then z6 P e else none
 | _=>none
def jn (n : Int × Int) (v : AV) : List ((Int × Int) × AV) -> List ((Int × Int) × AV)
 | []=>[(n,v)]
 | (m,u) :: l=>if m = n then (m,v) :: l else (m,u) :: jn n v l
def vQ (n : Int × Int) : List ((Int × Int) × AV) -> Option AV
 | []=>none
 | (m,u) :: l=>if m = n then some u else vQ n l
def keyV (n : Int × Int) : Value:=.agg #[.int .i64 n.1,.int .i64 n.2]
def zaS (H : List Blk) (k : AV -> List Blk -> Prop) : Prop:=k (.mp H.length) (H ++ [.pm []])
def kM (P : Program) (t : TypeId) (H : List Blk) (x i : AV) (ok : Bool) (k : AV -> Prop) : Prop:=
 match x,i with
 | .mp b,.agg [.int .i64 a,.int .i64 c]=>bnd (zbV P t) fun z=>match H[b]? with | some (.pm es)=>k (mres ok z (vQ (a,c) es)) | _=>False
 | x,i=>q8 P t H x i ok k
def yM (P : Program) (t : TypeId) (H : List Blk) (x i v : AV) (k : AV -> List Blk -> Prop) : Prop:=
 match x,i with
 | .mp b,.agg [.int .i64 a,.int .i64 c]=>bnd (zbV P t) fun _=>match H[b]? with | some (.pm es)=>k (.tup []) (H.set b (.pm (jn (a,c) v es))) | _=>False
 | x,i=>vh P t H x i v k
theorem zaL (n : Int × Int) (v : AV) : ∀ es : List ((Int × Int) × AV),(es.map (·.1)).Nodup -> ((jn n v es).map (·.1)).Nodup /\ ∀ m,m ∈ (jn n v es).map (·.1) -> m = n \/ m ∈ es.map (·.1)
 | [],_=>by simp [jn]
 | (m,u) :: l,h=>by
   simp only [List.map_cons,List.nodup_cons] at h
   unfold jn;split
   ·rename_i e;simp only [List.map_cons,List.nodup_cons];exact ⟨h,fun q hq=>.inr hq⟩
   ·rename_i e
    obtain ⟨h1,h2⟩:=zaL n v l h.2
    simp only [List.map_cons,List.nodup_cons]
    refine ⟨⟨fun hm=>?_,h1⟩,fun q hq=>?_⟩
    ·rcases h2 m hm with rfl | h3
     ·exact e rfl
     ·exact h.1 h3
    ·rcases List.mem_cons.1 hq with rfl | hq
     ·exact .inr (by simp)
     ·rcases h2 q hq with h3 | h3
      ·exact .inl h3
      ·exact .inr (List.mem_cons_of_mem _ h3)
section
variable {P : Program} {E : Env} {h : Nat -> Option Obj} {β : Nat -> Value} {H : List Blk} {w : World}
theorem qe {t : TypeId} (e : fo P t = true) : ∃ f g q r, P.underlying t = some (.struct #[f, g]) /\ P.stoodInHeld t = false /\ f.name ≠ "_" /\ g.name ≠ "_" /\ f.offset = 0 /\ g.offset = 1 /\ P.underlying f.type = some (.int q) /\ P.underlying g.type = some (.int r) /\ P.plainKey f.type = true /\ P.plainKey g.type = true /\ kx P f.type = true /\ kx P g.type = true := by
 unfold fo at e
 split at e
 case h_2=>cases e
 rename_i fs hu
 split at e
 case h_2=>cases e
 rename_i f g hfs
 simp only [Bool.and_eq_true,Bool.not_eq_true',bne_iff_ne,beq_iff_eq] at e
 obtain ⟨⟨⟨⟨⟨⟨h1,h2⟩,h3⟩,h4⟩,h5⟩,h6⟩,h7⟩:=e
 obtain ⟨q,a1,a2⟩:=kZ h6
 obtain ⟨r,b1,b2⟩:=kZ h7
 have : fs = #[f,g]:=Array.ext' hfs
 subst this
 exact ⟨f,g,q,r,hu,h1,h2,h3,h4,h5,a1,b1,a2,b2,h6,h7⟩
theorem kv {k : TypeId} (hp : fo P k = true) {b : Bool} {d : Nat} (n : Int × Int) : (Instr.checkKey b (d + 2) k (keyV n)).run P w = .ok () w:=by
 obtain ⟨f,g,q,r,hu,h1,h2,h3,h4,h5,h6,h7,h8,h9,-,-⟩:=qe hp
 have g1:=run_part_plain (xs:=#[Value.int .i64 n.1,Value.int .i64 n.2]) (off:=0) w h8 (v:=.int .i64 n.1) rfl
 have g2:=run_part_plain (xs:=#[Value.int .i64 n.1,Value.int .i64 n.2]) (off:=1) w h9 (v:=.int .i64 n.2) rfl
 unfold keyV Instr.checkKey
 simp only [Sem.run_bind,run_underlying hu,Result.andThen_ok]
 simp [h2,h3,h4,h5,g1,g2,Instr.checkKey,run_underlying h6,run_underlying h7]
theorem zaz {k : TypeId} (hp : fo P k = true) (n m : Int × Int) : (Op.equal k (keyV n) (keyV m)).run P w = .ok (n == m) w:=by
 obtain ⟨f,g,q,r,hu,h1,h2,h3,h4,h5,h6,h7,h8,h9,h10,h11⟩:=qe hp
 have hfo : P.fieldsOf k = #[f,g]:=by simp [Program.fieldsOf,hu]
 have he:=j7 (P:=P) (w:=w) (d:=9998) (xs:=#[Value.int .i64 n.1,Value.int .i64 n.2]) (ys:=#[Value.int .i64 m.1,Value.int .i64 m.2]) [f,g] 0 [n.1,n.2] [m.1,m.2] rfl rfl
  (fun x hx=>by
   simp only [List.zipIdx_cons,List.zipIdx_nil,List.mem_cons,List.not_mem_nil,or_false] at hx
   rcases hx with rfl | rfl
   ·exact ⟨h2,h4,h10⟩
   ·exact ⟨h3,h5,h11⟩)
  (fun j a e=>by
   rcases j with _ | _ | j
   ·simp at e;subst e;rfl
   ·simp at e;subst e;rfl
   ·simp at e)
  (fun j a e=>by
   rcases j with _ | _ | j
   ·simp at e;subst e;rfl
   ·simp at e;subst e;rfl
   ·simp at e)
 show (Op.equalIn 10000 k (.agg #[Value.int .i64 n.1,Value.int .i64 n.2]) (.agg #[Value.int .i64 m.1,Value.int .i64 m.2])).run P w = _
 rw [run_equalIn_struct w 9999 k _ _ (by rw [hfo];exact hu) (by rw [h1]),hfo]
 rw [show (#[f,g] : Array Field).toList = [f,g] from rfl]
 rw [he]
 congr 1
 obtain ⟨a,b⟩:=n
 obtain ⟨c,d⟩:=m
 show ((a == c) && ((b == d) && true)) = ((a == c) && (b == d))
 rw [Bool.and_true]
theorem wZ {kt : TypeId} (hp : fo P kt = true) (n : Int × Int) : ∀ (es : List ((Int × Int) × AV)) (le : List Go.MapEntry) (i : Nat),le.map (·.key) = es.map (fun p=>keyV p.1) ->
  ((Instr.findAsking kt (keyV n) le i).run P w = .ok none w /\ vQ n es = none /\ ∀ v,jn n v es = es ++ [(n,v)]) \/
  ∃ j e x,(Instr.findAsking kt (keyV n) le i).run P w = .ok (some (i + j,e.val)) w /\ le[j]? = some e /\ es[j]? = some (n,x) /\ vQ n es = some x /\ ∀ v,jn n v es = es.set j (n,v)
 | [],[],i,_=>.inl ⟨by simp [Instr.findAsking],rfl,fun _=>rfl⟩
 | (m,u) :: es,e :: le,i,h=>by
   simp only [List.map_cons,List.cons.injEq] at h
   obtain ⟨h1,h2⟩:=h
   have hq:=zaz (w:=w) hp n m
   by_cases hm : n = m
   ·subst hm
    refine .inr ⟨0,e,u,?_,rfl,rfl,by simp [vQ],fun v=>by simp [jn]⟩
    rw [beq_self_eq_true] at hq
    simp [Instr.findAsking,h1,hq]
   ·have hs : (Instr.findAsking kt (keyV n) (e :: le) i).run P w = (Instr.findAsking kt (keyV n) le (i + 1)).run P w:=by
     have : (n == m) = false:=by simpa using hm
     rw [this] at hq
     simp [Instr.findAsking,h1,hq]
    have hm' : ¬ m = n:=fun e=>hm e.symm
    rcases wZ hp n es le (i + 1) h2 with ⟨g1,g2,g3⟩ | ⟨j,e',x,g1,g2,g3,g4,g5⟩
    ·exact .inl ⟨hs.trans g1,by simp [vQ,hm',g2],fun v=>by simp [jn,hm',g3]⟩
    ·exact .inr ⟨j + 1,e',x,by rw [hs,g1];congr 3;omega,by simpa using g2,by simpa using g3,by simp [vQ,hm',g4],fun v=>by simp [jn,hm',g5]⟩
 | [],_ :: _,_,h=>by simp at h
 | _ :: _,[],_,h=>by simp at h
theorem qG {kt : TypeId} (hp : fo P kt = true) (n : Int × Int) (es : List ((Int × Int) × AV)) (le : List Go.MapEntry) (h : le.map (·.key) = es.map (fun p=>keyV p.1)) :
  ((Instr.findKey kt (keyV n) le).run P w = .ok none w /\ vQ n es = none /\ ∀ v,jn n v es = es ++ [(n,v)]) \/
  ∃ j e x,(Instr.findKey kt (keyV n) le).run P w = .ok (some (j,e.val)) w /\ le[j]? = some e /\ es[j]? = some (n,x) /\ vQ n es = some x /\ ∀ v,jn n v es = es.set j (n,v):=by
 obtain ⟨f,g,q,r,hu,-⟩:=qe hp
 rw [run_findKey_eq w (by rw [hu]) (keyV n) le]
 rcases wZ (w:=w) hp n es le 0 h with h | ⟨j,e,x,h1,h2⟩
 ·exact .inl h
 ·exact .inr ⟨j,e,x,by rw [h1,Nat.zero_add],h2⟩
theorem zbh {t : TypeId} {z : AV} (e : zbV P t = some z) : ∃ k el i zv,P.underlying t = some (.map k el) /\ fo P k = true /\ P.info? el = some i /\ i.zero = some zv /\ toAV zv = some z:=by
 unfold zbV at e;split at e
 ·rename_i k el h1
  split at e
  ·rename_i h2
   unfold z6 at e
   cases h3 : P.info? el with
   | none=>simp [h3] at e
   | some i =>
     cases h4 : i.zero with
     | none=>simp [h3,h4] at e
     | some zv=>simp [h3,h4] at e;exact ⟨k,el,i,zv,h1,h2,h3,h4,e⟩
  ·cases e
 ·cases e
theorem gE (s : SR P E h β H w) {t : TypeId} {k : AV -> List Blk -> Prop} (hk : zaS H k) : zl P E h β H (Instr.makeMap t none) w k:=by
 obtain ⟨s',X⟩:=s.push (w':=w.alloc (.map #[] 0)) s.env (fun k hk=>Below.heap_alloc _ _ _ hk) (.map (some w.heap.size)) (.pm []) (by simp [anchor])
  (fun X=>⟨w.heap.size,#[],0,by simp [upb],heap_alloc_new w _,by simp,rfl,fun _=>undef,by simp⟩)
 refine ⟨_,_,_,_,h,_,?_,hk,X,s',.mp (r:=w.heap.size) (.push rfl) (fun _ _ _=>by simp [upb])⟩
 simp [Instr.makeMap]
theorem zar {es : List ((Int × Int) × AV)} {ents : Array Go.MapEntry} (k : kr P h β H es ents) : ents.toList.map (·.key) = es.map (fun p=>keyV p.1):=by
 obtain ⟨h1,us,h2⟩:=k
 apply List.ext_getElem?
 intro j
 rw [List.getElem?_map,List.getElem?_map]
 cases he : es[j]? with
 | none =>
   have : ents.toList[j]? = none:=by rw [List.getElem?_eq_none_iff] at he ⊢;simpa [h1] using he
   rw [this];rfl
 | some p =>
   obtain ⟨q,x⟩:=p
   obtain ⟨_,born,h3⟩:=h2 j q x he
   have : ents.toList[j]? = some { key:=.agg #[.int .i64 q.1,.int .i64 q.2],val:=us j,born:=born }:=by simpa using h3
   rw [this];rfl
theorem pm_blk (s : SR P E h β H w) {i : Nat} {v : Value} {es : List ((Int × Int) × AV)} (hx : Rep P h β H (.mp i) v) (hi : H[i]? = some (.pm es)) :
  ∃ r ents clock,v = .map (some r) /\ β i = .map (some r) /\ w.heap[r]? = some (.map ents clock) /\ (es.map (·.1)).Nodup /\ kr P h β H es ents:=by
 cases hx with
 | @mp _ r hl hb =>
   have hβ:=hb _ hi rfl
   obtain ⟨r',ents,clock,h1,h2,h3,h4⟩:=s.blk i _ hi
   rw [hβ] at h1;cases h1
   exact ⟨r,ents,clock,rfl,hβ,h2,h3,h4⟩
theorem zdR {a c : Int} {v : Value} (r : Rep P h β H (.agg [.int .i64 a,.int .i64 c]) v) : v = keyV (a,c):=by
 cases r with
 | @agg _ vs us hs hone hc hr =>
   have h0:=hc 0 _ rfl
   have h1:=hc 1 _ rfl
   have r0:=hr 0 _ rfl
   have r1:=hr 1 _ rfl
   have e0 : us 0 = .int .i64 a:=by generalize us 0 = u at r0;cases r0;rfl
   have e1 : us 1 = .int .i64 c:=by generalize us 1 = u at r1;cases r1;rfl
   rw [e0] at h0
   rw [e1] at h1
   unfold keyV
   congr 1
   apply Array.ext'
   apply List.ext_getElem?
   intro j
   rcases j with _ | _ | j
   ·simpa using h0
   ·simpa using h1
   ·have : vs.toList[j + 2]? = none:=by rw [List.getElem?_eq_none_iff];simp [hs]
    rw [this];simp
theorem fE (s : SR P E h β H w) {t : TypeId} {x i : AV} {u v : Value} {ok : Bool} {k : AV -> Prop} (hx : Rep P h β H x u) (hi : Rep P h β H i v) (hk0 : kM P t H x i ok k) :
  zl P E h β H (Instr.lookup t u v ok) w (fun r H'=>H' = H /\ k r):=by
 unfold kM at hk0
 split at hk0
 case h_2=>exact zaK s hx hi hk0
 rename_i b a c
 obtain ⟨z,hz,hk⟩:=zd hk0
 clear hk0
 obtain ⟨kt,el,ie,zv,h1,h2,h3,h4,h5⟩:=zbh hz
 split at hk
 case h_2=>exact hk.elim
 rename_i es hb
 obtain rfl:=zdR hi
 obtain ⟨r,ents,clock,rfl,_,hr,hnd,hE⟩:=pm_blk s hx hb
 have hzr : Rep P h β H z zv:=k5 h5
 have hrun : ∀ res,(Instr.findKey kt (keyV (a,c)) ents.toList).run P w = .ok res w ->
   (Instr.lookup t (.map (some r)) (keyV (a,c)) ok).run P w = .ok (match res with | some (_,v)=>(if ok then .tuple #[v,.bool true] else v) | none=>if ok then .tuple #[zv,.bool false] else zv) w:=by
  intro res he
  unfold Instr.lookup
  simp only [Sem.run_bind,run_underlying h1,Result.andThen_ok,MapKept.run_getObj_map hr,Sem.run_pure,kv h2,he]
  cases res with
  | none=>cases ok <;> simp [zeroValue,typeInfo,h3,h4]
  | some p=>obtain ⟨j,v⟩:=p;cases ok <;> simp
 rcases qG (w:=w) h2 (a,c) es ents.toList (zar hE) with ⟨g1,g2,g3⟩ | ⟨j,e,x,g1,g2,g3,g4,g5⟩
 ·have hr2:=hrun _ g1
  rw [g2] at hk
  cases ok with
  | false=>exact zl.pure s hr2 hzr ⟨rfl,hk⟩
  | true=>exact zl.pure s hr2 (.tup (fun j=>if j = 0 then zv else .bool false) rfl (fun j x e=>by
    match j,e with
    | 0,e=>simp at e;simp
    | 1,e=>simp at e;simp) (fun j x e=>by
    match j,e with
    | 0,e=>simp at e;subst e;simpa using hzr
    | 1,e=>simp at e;subst e;simpa using Rep.bool false)) ⟨rfl,hk⟩
 ·have hr2:=hrun _ g1
  rw [g4] at hk
  obtain ⟨_,us,hus⟩:=hE
  obtain ⟨q1,born,q2⟩:=hus j _ x g3
  have : e.val = us j:=by
   have : ents.toList[j]? = some { key:=.agg #[.int .i64 a,.int .i64 c],val:=us j,born:=born }:=by simpa using q2
   rw [this] at g2;cases g2;rfl
  have hxr : Rep P h β H x e.val:=by rw [this];exact q1
  cases ok with
  | false=>exact zl.pure s hr2 hxr ⟨rfl,hk⟩
  | true=>exact zl.pure s hr2 (.tup (fun j=>if j = 0 then e.val else .bool true) rfl (fun j x e=>by
    match j,e with
    | 0,e=>simp at e;simp
    | 1,e=>simp at e;simp) (fun j x e=>by
    match j,e with
    | 0,e=>simp at e;subst e;simpa using hxr
    | 1,e=>simp at e;subst e;simpa using Rep.bool true)) ⟨rfl,hk⟩
theorem kr.val {es : List ((Int × Int) × AV)} {ents : Array Go.MapEntry} (k : kr P h β H es ents) : ents.size = es.length /\ ∀ (j : Nat) q x,es[j]? = some (q,x) -> ∃ e,ents[j]? = some e /\ e.key = keyV q /\ Rep P h β H x e.val:=by
 obtain ⟨h1,us,h2⟩:=k
 refine ⟨h1,fun j q x e=>?_⟩
 obtain ⟨h3,born,h4⟩:=h2 j q x e
 exact ⟨_,h4,rfl,h3⟩
theorem kr.of {es : List ((Int × Int) × AV)} {ents : Array Go.MapEntry} (h1 : ents.size = es.length) (h2 : ∀ (j : Nat) q x,es[j]? = some (q,x) -> ∃ e,ents[j]? = some e /\ e.key = keyV q /\ Rep P h β H x e.val) : kr P h β H es ents:=by
 refine ⟨h1,fun j=>match ents[j]? with | some e=>e.val | none=>undef,fun j q x e=>?_⟩
 obtain ⟨e',h3,h4,h5⟩:=h2 j q x e
 refine ⟨by simp only [h3];exact h5,e'.born,?_⟩
 simp only [h3];cases e';simp only at h4;subst h4;rfl
theorem wA (s : SR P E h β H w) {t : TypeId} {x i r : AV} {u v y : Value} {k : AV -> List Blk -> Prop} (hx : Rep P h β H x u) (hi : Rep P h β H i v) (hr : Rep P h β H r y) (hk0 : yM P t H x i r k) :
  ∃ w' H' h' β',(Instr.mapUpdate t u v y).run P w = .ok () w' /\ k (.tup []) H' /\ Ext h β H h' β' H' /\ SR P E h' β' H' w':=by
 unfold yM at hk0
 split at hk0
 case h_2=>exact fC s hx hi hr hk0
 rename_i b a c
 obtain ⟨z,hz,hk⟩:=zd hk0
 clear hk0
 obtain ⟨kt,el,ie,zv,h1,h2,h3,h4,h5⟩:=zbh hz
 split at hk
 case h_2=>exact hk.elim
 rename_i es hb
 obtain rfl:=zdR hi
 obtain ⟨rr,ents,clock,rfl,hβ,hrr,hnd,hE⟩:=pm_blk s hx hb
 have hlt : rr < w.heap.size:=(Array.getElem?_eq_some_iff.1 hrr).1
 have hbo : blkOf β H b = some rr:=by simp only [blkOf,hb,hβ];rfl
 have hnd':=(zaL (a,c) r es hnd).1
 obtain ⟨q1,q2⟩:=hE.val
 have go : ∀ ents' clock',(Instr.mapUpdate t (.map (some rr)) (keyV (a,c)) y).run P w = .ok () (w.putObj rr (.map ents' clock')) ->
   (∀ h' β' H',Ext h β H h' β' H' -> kr P h' β' H' (jn (a,c) r es) ents') -> ∃ w' H' h' β',(Instr.mapUpdate t (.map (some rr)) (keyV (a,c)) y).run P w = .ok () w' /\ k (.tup []) H' /\ Ext h β H h' β' H' /\ SR P E h' β' H' w':=by
  intro ents' clock' hrun hents
  obtain ⟨s',X⟩:=s.modify (β':=β) (w':=w.putObj rr (.map ents' clock')) (x':=.pm (jn (a,c) r es)) hb (fun _ _=>rfl) (.inr ⟨_,rfl,rfl⟩) s.env
   (fun q _ hn=>World.putObj_heap_other (fun e=>hn (by rw [hbo,e]))) (fun b0 e=>.inl (by rw [hbo];rw [hβ] at e;exact e))
   (fun X=>⟨rr,ents',clock',hβ,World.putObj_heap_same hlt,hnd',hents _ _ _ X⟩)
  exact ⟨_,_,_,_,hrun,hk,X,s'⟩
 rcases qG (w:=w) h2 (a,c) es ents.toList (zar hE) with ⟨g1,g2,g3⟩ | ⟨j,e,x0,g1,g2,g3,g4,g5⟩
 ·refine go (ents.push { key:=keyV (a,c),val:=y,born:=clock }) (clock + 1) ?_ ?_
  ·unfold Instr.mapUpdate
   simp [Sem.run_bind,run_underlying h1,MapKept.run_getObj_map hrr,kv h2,g1,MapKept.run_setObj_map _ hrr,World.putObj]
  ·intro h' β' H' X
   rw [g3]
   refine .of (by simp [q1]) fun j q x e=>?_
   rcases Nat.lt_or_ge j es.length with hj | hj
   ·rw [List.getElem?_append_left hj] at e
    obtain ⟨e',p1,p2,p3⟩:=q2 j q x e
    exact ⟨e',by rw [Array.getElem?_push];rw [if_neg (by omega)];exact p1,p2,X.rep p3⟩
   ·rw [List.getElem?_append_right hj] at e
    have hj' : j = es.length:=by have:=(List.getElem?_eq_some_iff.1 e).1;simp at this;omega
    subst hj';simp at e;obtain ⟨rfl,rfl⟩:=e
    exact ⟨{ key:=keyV (a,c),val:=y,born:=clock },by rw [Array.getElem?_push];rw [if_pos (by omega)],rfl,X.rep hr⟩
 ·have g2' : ents[j]? = some e:=by simpa using g2
  have hkey : e.key = keyV (a,c):=by
   obtain ⟨e',p1,p2,_⟩:=q2 j _ x0 g3
   rw [g2'] at p1;cases p1;exact p2
  have hsame : Instr.sameBits 10000 (keyV (a,c)) (keyV (a,c)) = true:=by
   simp [keyV,Instr.sameBits]
  refine go (ents.modify j fun e=>{ e with key:=keyV (a,c),val:=y }) clock ?_ ?_
  ·unfold Instr.mapUpdate
   simp [Sem.run_bind,run_underlying h1,MapKept.run_getObj_map hrr,kv h2,g1,g2',hkey,Instr.keyThatStays,hsame,MapKept.run_setObj_map _ hrr,World.putObj]
  ·intro h' β' H' X
   rw [g5]
   refine .of (by simp [q1]) fun m q x em=>?_
   by_cases hm : j = m
   ·subst hm
    rw [List.getElem?_set_self (List.getElem?_eq_some_iff.1 g3).1] at em
    cases em
    exact ⟨{ e with key:=keyV (a,c),val:=y },by rw [Array.getElem?_modify];simp [g2'],rfl,X.rep hr⟩
   ·rw [List.getElem?_set_ne hm] at em
    obtain ⟨e',p1,p2,p3⟩:=q2 m q x em
    exact ⟨e',by rw [Array.getElem?_modify,if_neg hm];exact p1,p2,X.rep p3⟩
end
end GA
end
section
namespace GA
open Go Go.RowKit
def j9 (P : Program) (H : List Blk) (d : AV) (el : TypeId) (new : List AV) (k : Nat -> List Blk -> Prop) : Prop:=
 match d with
 | .gr i n=>match H[i]? with
   | some (.grow te nl els)=>(te = el /\ els.length = n) /\ k n (H.set i (.grow te nl (splice els 0 (new.take n))))
   | _=>False
 | .os i m o n=>match H[i]? with
   | some (.grow te nl els)=>(te = el /\ els.length = m /\ o + n <= m) /\ k n (H.set i (.grow te nl (splice els o (new.take n))))
   | _=>False
 | _=>False
def zc1 (P : Program) (t : TypeId) (d x : AV) (H : List Blk) (k : AV -> List Blk -> Prop) : Prop:=
 bnd (slE P t) fun y=>bnd (vU H x) fun new=>(wide y.2.1 new = true) /\ j9 P H d y.1 new fun n H'=>k (.int .i64 (min new.length n : Nat)) H'
def lenD : AV -> Option Nat
 | .gr _ n=>some n
 | .os _ _ _ n=>some n
 | _=>none
def fI (P : Program) (t : TypeId) (x : AV) (H : List Blk) (k : AV -> List Blk -> Prop) : Prop:=
 bnd (slE P t) fun y=>bnd (z6 P y.1) fun z=>bnd (lenD x) fun n=>j9 P H x y.1 (List.replicate n z) fun _ H'=>k (.tup []) H'
theorem zdv {w : Nat} {els new : List AV} (h1 : ∀ e ∈ els,e.cells.length = w) (h2 : ∀ e ∈ new,e.cells.length = w) (o : Nat) (ho : o + new.length <= els.length) : flat (splice els o new) = splice (flat els) (o * w) (flat new):=by
 have e1 : els = els.take o ++ ((els.drop o).take new.length ++ els.drop (o + new.length)):=by
  rw [<- List.drop_drop,List.take_append_drop,List.take_append_drop]
 have l1 : (flat (els.take o)).length = o * w:=by
  rw [zK (fun e he=>h1 e (List.mem_of_mem_take he)),List.length_take,Nat.min_eq_left (by omega)]
 have l2 : (flat ((els.drop o).take new.length)).length = new.length * w:=by
  rw [zK (fun e he=>h1 e (List.mem_of_mem_drop (List.mem_of_mem_take he))),List.length_take,List.length_drop,Nat.min_eq_left (by omega)]
 have l3 : (flat new).length = new.length * w:=zK h2
 have f1 : flat els = flat (els.take o) ++ (flat ((els.drop o).take new.length) ++ flat (els.drop (o + new.length))):=by rw [<- zZ,<- zZ,<- e1]
 unfold splice
 rw [zZ,zZ,f1,l3]
 congr 1
 ·rw [List.take_left' l1]
 ·rw [<- List.append_assoc];exact (List.drop_left' (by rw [List.length_append,l1,l2])).symm
section
variable {P : Program} {E : Env} {h : Nat -> Option Obj} {β : Nat -> Value} {H : List Blk} {w : World} {σ : St} {a : Act}
theorem zcn (c : List AV) (o : Nat) : splice c o [] = c:=by simp [splice]
theorem put_ok (s : SR P E h β H w) {i : Nat} {te : TypeId} {nl : Bool} {els : List AV} (e1 : H[i]? = some (.grow te nl els)) {o : Nat} {new : List AV} (ho : o + new.length <= els.length) (hne : new ≠ [])
  (hw : ∀ e ∈ new,e.cells.length = sz P te) (hone : ∀ x ∈ flat new,x.one = true) {vals : List Value} (hl : vals.length = (flat new).length) (h1c : ∀ u ∈ vals,u.oneCell' = true)
  (us : Nat -> Value) (u1 : ∀ (j : Nat) x,(flat new)[j]? = some x -> vals[j]? = some (us j)) (u2 : ∀ (j : Nat) x,(flat new)[j]? = some x -> Rep P h β H x (us j)) :
  ∃ b cap,β i = .slice (some ⟨b,0,none⟩) els.length cap /\ ∃ w',(storeCells ⟨b,o * sz P te,none⟩ vals).run P w = .ok () w' /\ SR P E h β (H.set i (.grow te nl (splice els o new))) w' /\ Ext h β H h β (H.set i (.grow te nl (splice els o new))):=by
 have hpos : 0 < new.length:=List.length_pos_iff.2 hne
 rcases s.blk i _ e1 with ⟨_,h7,_⟩ | ⟨_,h7,_⟩ | ⟨hnl,b,cap,c,h8,h9,h10,h11,h12,h13,h14,h15,h16,h17⟩
 ·subst h7;simp only [List.length_nil] at ho;omega
 ·subst h7;simp only [List.length_nil] at ho;omega
 ·refine ⟨b,cap,h8,?_⟩
  have hfl:=zK h15
  have hfn:=zK hw
  have hbo : blkOf β H i = some b:=by simp [blkOf,e1,h8,anchor];omega
  have hmul : o * sz P te + (flat new).length <= (flat els).length:=by rw [hfn,hfl,<- Nat.add_mul];exact Nat.mul_le_mul_right _ ho
  have hcap2 : els.length * sz P te <= c.size:=by rw [h13];exact Nat.mul_le_mul_right _ h11
  have run:=run_storeCells_at P b (o * sz P te) te vals 0 c w h10 (by rw [hl];omega) h1c
  simp only [Nat.add_zero] at run
  have hfs:=zdv h15 hw o ho
  have hsl : (splice els o new).length = els.length:=yb ho
  obtain ⟨s',X⟩:=s.modify (β':=β) (w':=w.setRow b (c.toList.take (o * sz P te) ++ vals ++ c.toList.drop (o * sz P te + vals.length)).toArray) (x':=.grow te nl (splice els o new)) e1 (fun _ _=>rfl)
   (.inr ⟨_,_,rfl,by omega,fun _=>rfl⟩) ((jD _ _ _).trans s.env) (fun k _ hne=>setRow_other _ _ _ _ (fun e=>hne (by rw [hbo,e])))
   (fun b0 e=>.inl (by rw [hbo];rw [h8] at e;simp [anchor] at e;rw [e.2]))
   (fun X=>.inr (.inr ⟨hnl,b,cap,_,by rw [h8,hsl],h9,setRow_heap w b c _ te _ h10,by rw [hsl];exact h11,h12,by
    rw [<- h13]
    simp only [List.size_toArray,List.length_append,List.length_take,List.length_drop,Array.length_toList];omega,h14,
    fun y hy=>by rcases kL hy with hy | hy;exact h15 y hy;exact hw y hy,
    fun y hy=>by rw [hfs] at hy;rcases kL hy with hy | hy;exact h16 y hy;exact hone y hy,
    by rw [hfs];exact zP.splice (h17.ext X) (by omega) (by omega) hl us u1 (fun j x e=>X.rep (u2 j x e))⟩))
  exact ⟨_,run,s',X⟩
theorem jG (s : SR P E h β H w) {d : AV} {dv : Value} (hd : Rep P h β H d dv) {el : TypeId} {new : List AV} {k : Nat -> List Blk -> Prop}
  (hw : ∀ e ∈ new,e.cells.length = sz P el)
  (cells : Nat -> List Value) (hl : ∀ n,(cells n).length = (flat (new.take n)).length) (h1c : ∀ n,∀ u ∈ cells n,u.oneCell' = true) (hone : ∀ x ∈ flat new,x.one = true)
  (us : Nat -> Value) (u1 : ∀ n (j : Nat) x,(flat (new.take n))[j]? = some x -> (cells n)[j]? = some (us j)) (u2 : ∀ n (j : Nat) x,(flat (new.take n))[j]? = some x -> Rep P h β H x (us j))
  (hk : j9 P H d el new k) : ∃ a n c,lenD d = some n /\ dv = .slice a n c /\ ∃ w' H',((cells n = [] /\ w' = w) \/ ∃ a',a = some a' /\ cells n ≠ [] /\ (storeCells a' (cells n)).run P w = .ok () w') /\ k n H' /\ SR P E h β H' w' /\ Ext h β H h β H':=by
 have nop : ∀ (a : Option Addr) n c (i : Nat) te nl els,lenD d = some n -> dv = .slice a n c -> H[i]? = some (.grow te nl els) -> new.take n = [] -> ∀ o,k n (H.set i (.grow te nl (splice els o (new.take n)))) ->
   ∃ a n c,lenD d = some n /\ dv = .slice a n c /\ ∃ w' H',((cells n = [] /\ w' = w) \/ ∃ a',a = some a' /\ cells n ≠ [] /\ (storeCells a' (cells n)).run P w = .ok () w') /\ k n H' /\ SR P E h β H' w' /\ Ext h β H h β H':=by
  intro a n c i te nl els hld hdv e1 hn o hk
  have hlt : i < H.length:=(List.getElem?_eq_some_iff.1 e1).1
  rw [hn,zcn,<- (List.getElem?_eq_some_iff.1 e1).2,List.set_getElem_self hlt] at hk
  have hc : cells n = []:=List.eq_nil_of_length_eq_zero (by rw [hl,hn];rfl)
  exact ⟨a,n,c,hld,hdv,w,H,.inl ⟨hc,rfl⟩,hk,s,Ext.refl _ _ _⟩
 have sub : ∀ n,∀ x ∈ flat (new.take n),x.one = true:=fun n x hx=>by
  obtain ⟨e,he,hx⟩:=List.mem_flatMap.1 hx
  exact hone x (List.mem_flatMap.2 ⟨e,List.mem_of_mem_take he,hx⟩)
 have cne : ∀ n (i : Nat) te nl els b cap,H[i]? = some (.grow te nl els) -> te = el -> els ≠ [] -> β i = .slice (some ⟨b,0,none⟩) els.length cap -> new.take n ≠ [] -> cells n ≠ []:=by
  intro n i te nl els b cap e1 ht hne hb hn hc
  subst ht
  rcases s.blk i _ e1 with ⟨_,h7,_⟩ | ⟨_,h7,_⟩ | ⟨_,b,cap,c,h8,h9,h10,h11,h12,h13,h14,_⟩
  ·exact hne h7
  ·exact hne h7
  ·have h1:=hl n
   rw [hc,zK (fun e he=>hw e (List.mem_of_mem_take he))] at h1
   have h2 : 0 < (new.take n).length:=List.length_pos_iff.2 hn
   have:=Nat.mul_pos h2 h14
   simp only [List.length_nil] at h1;omega
 unfold j9 at hk
 split at hk
 ·rename_i i n
  split at hk
  ·rename_i te nl els e1
   obtain ⟨⟨rfl,h2⟩,hk⟩:=hk
   cases hd with
   | gr ho hlive hv =>
     obtain ⟨_,g2⟩:=hv _ _ _ e1
     have hβ:=g2 h2
     subst hβ
     have hdv : ∃ a c,β i = .slice a n c:=by
      rcases s.blk i _ e1 with ⟨_,h7,h8⟩ | ⟨_,h7,a,h8⟩ | ⟨_,b,cap,c,h8,_⟩
      ·subst h7;exact ⟨_,_,by rw [h8,<- h2];rfl⟩
      ·subst h7;exact ⟨_,_,by rw [h8,<- h2];rfl⟩
      ·exact ⟨_,_,by rw [h8,<- h2]⟩
     obtain ⟨a,c,hdv⟩:=hdv
     by_cases hn : new.take n = []
     ·exact nop a n c i te nl els rfl hdv e1 hn 0 hk
     ·obtain ⟨b,cap,p1,w',p2,p3,p4⟩:=put_ok s e1 (o:=0) (new:=new.take n) (by rw [List.length_take];omega) hn (fun e he=>hw e (List.mem_of_mem_take he)) (sub n) (hl n) (h1c n) us (u1 n) (u2 n)
      have hne:=cne n i _ nl els b cap e1 rfl (by rintro rfl;simp at h2;subst h2;simp at hn) p1 hn
      rw [hdv] at p1;cases p1
      rw [Nat.zero_mul] at p2
      exact ⟨_,_,_,rfl,hdv,w',_,.inr ⟨_,rfl,hne,p2⟩,hk,p3,p4⟩
  ·exact hk.elim
 ·rename_i i m o n
  split at hk
  ·rename_i te nl els e1
   obtain ⟨⟨rfl,h2,h3⟩,hk⟩:=hk
   cases hd with
   | @os _ _ _ _ b q cap hlive hnc hc hg _ =>
     by_cases hn : new.take n = []
     ·exact nop _ n cap i te nl els rfl rfl e1 hn o hk
     ·have hz : n ≠ 0:=by rintro rfl;simp at hn
      obtain ⟨g1,g2⟩:=hg _ _ _ e1
      obtain ⟨g3,g4,len,cap',g5⟩:=g2 h2 hz
      obtain ⟨b',cap2,p1,w',p2,p3,p4⟩:=put_ok s e1 (o:=o) (new:=new.take n) (by rw [List.length_take];omega) hn (fun e he=>hw e (List.mem_of_mem_take he)) (sub n) (hl n) (h1c n) us (u1 n) (u2 n)
      have hne:=cne n i _ nl els _ _ e1 rfl (by rintro rfl;simp at h2;omega) p1 hn
      rw [g5] at p1;cases p1
      exact ⟨_,n,_,rfl,rfl,w',_,.inr ⟨_,rfl,hne,by rw [g4];exact p2⟩,hk,p3,p4⟩
  ·exact hk.elim
 ·exact hk.elim
theorem zdk (s : SR P E h β H w) {t t' ty : TypeId} {d x : AV} {dv v : Value} (hd : Rep P h β H d dv) (hx : Rep P h β H x v) {k : AV -> List Blk -> Prop} (hk : zc1 P t d x H k) :
  zl P E h β H (Builtin.copy_ #[t,t'] ty #[dv,v]) w k:=by
 obtain ⟨y,h1,hk1⟩:=zd hk
 obtain ⟨new,h2,hw,hk2⟩:=zd hk1
 obtain ⟨el,i,z,q1,q2,q3,q4,q5,q6,rfl⟩:=jJ h1
 simp only at hw hk2
 have hsz : sz P el = i.size:=by simp [sz,q2]
 have hww:=fun e he=>(yO hw e he).1
 have hrs : (Go.sizeOf el).run P w = .ok i.size w:=by simp [Go.sizeOf,typeInfo,q2]
 have tk : ∀ n,(flat (new.take n)).length = min n new.length * i.size:=fun n=>by
  rw [zK (fun e he=>hww e (List.mem_of_mem_take he)),List.length_take]
 have fget : ∀ n (j : Nat) x,(flat (new.take n))[j]? = some x -> (flat new)[j]? = some x /\ j < min n new.length * i.size:=fun n j x e=>by
  have hj:=(List.getElem?_eq_some_iff.1 e).1
  rw [tk] at hj
  have e2 : flat new = flat (new.take n) ++ flat (new.drop n):=by rw [<- zZ,List.take_append_drop]
  exact ⟨by rw [e2,List.getElem?_append_left (by rw [tk];exact hj)];exact e,hj⟩
 rcases zay s hx h2 hw with ⟨rfl,rfl⟩ | ⟨a,c,news,rfl,hl,hcell,h1c,hone,us,u1,u2⟩
 ·obtain ⟨a,n,c,g1,rfl,w',H',g3,g4,g5,g6⟩:=jG s hd (by simp) (fun _=>[]) (by simp [flat]) (by simp) (by simp [flat]) (fun _=>undef) (by simp [flat]) (by simp [flat]) hk2
  have hw' : w' = w:=by
   rcases g3 with g3 | ⟨_,_,g3,_⟩
   ·exact g3.2
   ·exact absurd rfl g3
  subst hw'
  refine ⟨.int .i64 0,w',_,H',h,β,?_,by simpa using g4,g6,g5,.int _ _⟩
  cases a <;> simp [Builtin.copy_,run_underlying q1,hrs,Builtin.lenOf,Builtin.firstCells,storeCells,goInt]
 ·have hcl : ∀ n,(news.take (n * i.size)).length = (flat (new.take n)).length:=fun n=>by
   rw [tk,List.length_take,hl]
   rcases Nat.le_total n new.length with h | h
   ·rw [Nat.min_eq_left h,Nat.min_eq_left (Nat.mul_le_mul_right _ h)]
   ·rw [Nat.min_eq_right h,Nat.min_eq_right (Nat.mul_le_mul_right _ h)]
  obtain ⟨a2,n,c2,g1,rfl,w',H',g3,g4,g5,g6⟩:=jG s hd (by rw [hsz];exact hww) (fun n=>news.take (n * i.size)) hcl (fun n u hu=>h1c u (List.mem_of_mem_take hu)) hone us
   (fun n j x e=>by
    obtain ⟨e1,e2⟩:=fget n j x e
    rw [List.getElem?_take,if_pos (by
     have:=Nat.mul_le_mul_right i.size (Nat.min_le_left n new.length);omega)]
    exact u1 j x e1) (fun n j x e=>u2 j x (fget n j x e).1) hk2
  have hmin : Nat.min new.length n = min new.length n:=rfl
  have hf : (Builtin.firstCells i.size (Nat.min new.length n) (.slice (some a) new.length c)).run P w = .ok (news.take (n * i.size)).toArray w:=by
   refine run_firstCells_some w i.size _ a _ c _ ?_ fun j u e=>?_
   ·rw [hcl,tk,hmin,Nat.min_comm]
   ·rw [List.getElem?_take] at e
    split at e
    ·exact hcell j u e
    ·cases e
  refine ⟨.int .i64 (min new.length n : Nat),w',_,H',h,β,?_,g4,g6,g5,.int _ _⟩
  rcases g3 with ⟨g3,rfl⟩ | ⟨a',rfl,g3,g7⟩
  ·simp only [g3] at hf
   cases a2 <;> simp [Builtin.copy_,run_underlying q1,hrs,Builtin.lenOf,hf,storeCells,goInt,hmin]
  ·simp [Builtin.copy_,run_underlying q1,hrs,Builtin.lenOf,hf,g7,goInt,hmin]
theorem zbl (s : SR P E h β H w) {t ty : TypeId} {x : AV} {v : Value} (hx : Rep P h β H x v) {k : AV -> List Blk -> Prop} (hk : fI P t x H k) :
  zl P E h β H (Builtin.clear_ #[t] ty #[v]) w k:=by
 obtain ⟨y,h1,hk1⟩:=zd hk
 obtain ⟨z,h2,hk2⟩:=zd hk1
 obtain ⟨N,h3,hk3⟩:=zd hk2
 obtain ⟨el,i,z',q1,q2,q3,q4,q5,q6,rfl⟩:=jJ h1
 simp only at h2 hk3
 rw [q3] at h2;cases h2
 obtain ⟨i',zv,z1,z2,z3⟩:=jO q3
 rw [q2] at z1;cases z1
 have hsz : sz P el = i.size:=by simp [sz,q2]
 have hzr:=k5 (P:=P) (h:=h) (β:=β) (H:=H) z3
 obtain ⟨c1,c2,c3,us,c4,c5⟩:=yT s hzr q6
 have hzs : zv.cells.size = i.size:=c1.trans q4
 have hz : (zeroValue el).run P w = .ok zv w:=by simp [zeroValue,typeInfo,q2,z2]
 have hrep : ∀ n,(List.replicate N z).take n = List.replicate (min n N) z:=fun n=>by rw [List.take_replicate]
 have hfr : ∀ m,(flat (List.replicate m z)).length = m * i.size:=fun m=>by rw [zK (w:=i.size) (fun e he=>by rw [List.eq_of_mem_replicate he];exact q4),List.length_replicate]
 have hzc : ∀ m (j : Nat),j < m * i.size -> (Builtin.zeroCells zv.cells m).toList[j]? = zv.cells[j % i.size]?:=fun m j hj=>by
  have hlt : j % i.size < zv.cells.size:=by rw [hzs];exact Nat.mod_lt _ q5
  simp only [Builtin.zeroCells,Array.toList_map,Array.toList_range,List.getElem?_map]
  rw [List.getElem?_range (by rw [hzs];exact hj),Option.map_some,Array.getElem?_eq_getElem hlt]
  congr 1
  simp only [hzs]
  exact getElem!_pos zv.cells (j % i.size) hlt
 have hget : ∀ m (j : Nat) x,(flat (List.replicate m z))[j]? = some x -> j < m * i.size /\ z.cells[j % i.size]? = some x:=fun m j x e=>by
  have hj:=(List.getElem?_eq_some_iff.1 e).1
  rw [hfr] at hj
  exact ⟨hj,by rw [<- y7 z i.size q4 q5 m j hj];exact e⟩
 have hzl : ∀ m,(Builtin.zeroCells zv.cells m).toList.length = m * i.size:=fun m=>by simp [Builtin.zeroCells,hzs]
 obtain ⟨a,n,c,g1,rfl,w',H',g3,g4,g5,g6⟩:=jG s hx (new:=List.replicate N z) (fun e he=>by rw [List.eq_of_mem_replicate he,hsz];exact q4) (fun n=>(Builtin.zeroCells zv.cells (min n N)).toList)
  (fun n=>by rw [hrep,hfr,hzl]) (fun n u hu=>by
   obtain ⟨j,e⟩:=List.mem_iff_getElem?.1 hu
   have hj : j < min n N * i.size:=by have:=(List.getElem?_eq_some_iff.1 e).1;rwa [hzl] at this
   rw [hzc _ _ hj] at e
   exact c3 u (by simpa using Array.mem_of_getElem? e))
  (fun x hx=>by
   obtain ⟨e,he,hx⟩:=List.mem_flatMap.1 hx
   rw [List.eq_of_mem_replicate he] at hx;exact c2 x hx)
  (fun j=>us (j % i.size)) (fun n j x e=>by
   rw [hrep] at e
   obtain ⟨e1,e2⟩:=hget _ _ _ e
   rw [hzc _ _ e1];exact c4 _ x e2) (fun n j x e=>by
   rw [hrep] at e
   exact c5 _ x (hget _ _ _ e).2) hk3
 rw [h3] at g1;cases g1
 refine ⟨.tuple #[],w',_,H',h,β,?_,g4,g6,g5,.tup (fun _=>undef) rfl (by simp) (by simp)⟩
 rw [Nat.min_self] at g3
 rcases g3 with ⟨g3,rfl⟩ | ⟨a',rfl,g3,g7⟩
 ·have hN : N = 0:=by
   have:=hzl N;rw [g3] at this
   rcases Nat.eq_zero_or_pos N with h | h
   ·exact h
   ·have:=Nat.mul_pos h q5;simp at *;omega
  subst hN
  cases a <;> simp [Builtin.clear_,run_underlying q1]
 ·cases N with
  | zero=>simp [Builtin.zeroCells] at g3
  | succ m=>simp [Builtin.clear_,run_underlying q1,hz,g7]
end
end GA
end
section
namespace GA
open Go Go.RowKit
abbrev FW (ρ : Option Nat) : Fence:={ fn:=fun _=>True,depth:=none,alive:=false,round:=ρ }
def enters (P : Program) (f : FuncId) : Prop := ∃ fn, P.funcs[f]? = some fn /\ (fn.name == "runtime.NumGoroutine") = false /\ fn.body.isSome = true
def Ends (P : Program) (E : Env) (h : Nat -> Option Obj) (β : Nat -> Value) (H : List Blk) (k : AV -> List Blk -> Prop) (e : Ending) (w' : World) : Prop:=
 ∃ r H' h' β' v,e = .returned v /\ k r H' /\ Ext h β H h' β' H' /\ SR P E h' β' H' w' /\ Rep P h' β' H' r v
def yo (P : Program) (f : FuncId) (rs : List AV) (H : List Blk) (k : AV -> List Blk -> Prop) : Prop:=
 enters P f /\ ∀ E h β w vs,SR P E h β H w -> RepL P h β H rs vs -> CallsIn (FW none) 0 P f vs.toArray w (Ends P E h β H k)
def vc (P : Program) (i : Nat) (rs : List AV) (H : List Blk) (k : AV -> List Blk -> Prop) : Prop:=
 i < H.length /\ ∀ E h β w b vs,SR P E h β H w -> RepL P h β H rs vs -> (∀ x,H[i]? = some x -> x.isRec = true -> β i = .pointer (some ⟨b,0,none⟩)) ->
  ∃ f tmps assign body,(Instr.yield b vs.toArray).run P w = .ok (.round b f tmps assign body) w /\ RoundIn (FW none) 0 P b f tmps assign body w (Ends P E h β H k)
theorem Ends.mono {P : Program} {E : Env} {h : Nat -> Option Obj} {β : Nat -> Value} {H : List Blk} {k k' : AV -> List Blk -> Prop} (hk : ∀ r H',k r H' -> k' r H') {e : Ending} {w' : World} (x : Ends P E h β H k e w') : Ends P E h β H k' e w':=
 let ⟨r,H',h',β',v,h1,h2,rest⟩:=x
 ⟨r,H',h',β',v,h1,hk _ _ h2,rest⟩
def gz (P : Program) (b : Builtin) (ts : List TypeId) (rs : List AV) (H : List Blk) (k : AV -> List Blk -> Prop) : Prop:=
 match b,ts,rs with
 | .len,[t],[x]=>opLen P t H x (k · H)
 | .append,[t,t'],[s,x]=>t = t' /\ wu P t s x H k
 | .min,_,[x,y]=>opMin x y (k · H)
 | .max,_,[x,y]=>opMax x y (k · H)
 | .copy,[t,_],[d,x]=>zc1 P t d x H k
 | .clear,[t],[x]=>fI P t x H k
 | _,_,_=>False
def jM (P : Program) (σ : St) (H : List Blk) (c : Call) (k : AV -> List Blk -> Prop) : Prop:=
 match c.callee with
 | .value f=>bnd (ev σ f) fun fv=>bnd (evL σ c.args.toList) fun rs =>
   match fv with
   | .fn g caps=>yo P g (rs ++ caps) H k
   | .bf g caps=>yo P g (caps ++ rs) H k
   | .yld i=>vc P i rs H k
   | _=>False
 | .builtin b=>bnd (evL σ c.args.toList) fun rs=>gz P b c.argTypes.toList rs H k
 | _=>False
def ownD (own : List Nat) : Option Nat -> Bool
 | some d=>own.contains d
 | none=>false
def AOp (P : Program) (own : List Nat) (dst : Option Nat) (σ : St) (H : List Blk) (k : AV -> List Blk -> Prop) : Op -> Prop
 | .move x | .assign x=>bnd (ev σ x) fun r=>k r H
 | .pick c a b=>bnd (ev σ c) fun r=>match r with | .bool q=>Br q (bnd (ev σ a) fun r=>k r H) (bnd (ev σ b) fun r=>k r H) | _=>False
 | .alloc t=>bnd (z6 P t) fun z=>zak z H k
 | .box _ x=>bnd (ev σ x) fun r=>if ownD own dst = true then zak r H k else opBoxI r H k
 | .build t ps=>bnd (evP σ ps.toList) fun rs=>zcO P t rs (k · H)
 | .buildSlice t n ps=>bnd (evP σ ps.toList) fun rs=>jv P (ownD own dst) t n rs H k
 | .load t x=>bnd (ev σ x) fun p=>y0 P t H p (k · H)
 | .store t x v=>bnd (ev σ x) fun p=>bnd (ev σ v) fun r=>fL P t H p r k
 | .nilCheck x=>bnd (ev σ x) fun r=>zav r (k · H)
 | .binOp op t x y _=>bnd (ev σ x) fun u=>bnd (ev σ y) fun v=>zcq P t op u v (k · H)
 | .unOp op _ x=>bnd (ev σ x) fun r=>opUn op r (k · H)
 | .convert s d x=>bnd (ev σ x) fun r=>zcx P s d r (k · H)
 | .makeFunc fn first caps=>match fn with
   | .func f=>(first.size = 0 /\ bnd (evL σ caps.toList) fun cs=>k (.fn f cs) H) \/ (caps.size = 0 /\ bnd (evL σ first.toList) fun cs=>k (.bf f cs) H)
   | _=>False
 | .makeSlice t l c=>bnd (ev σ l) fun l=>bnd (ev σ c) fun c=>k0 P t l c H k
 | .slice t x lo hi mx=>bnd (ev σ x) fun r=>bnd (evO σ lo) fun lo=>bnd (evO σ hi) fun hi=>bnd (evO σ mx) fun mx=>vb P t H r lo hi mx (k · H)
 | .fieldAddr t x f=>bnd (ev σ x) fun r=>j1 P t r f (k · H)
 | .field t x f=>bnd (ev σ x) fun r=>qo P t r f (k · H)
 | .indexAddr t x i=>bnd (ev σ x) fun r=>bnd (ev σ i) fun i=>jc P t H r i (k · H)
 | .index t x i=>(bnd (ev σ x) fun r=>bnd (ev σ i) fun i=>gd P t r i (k · H)) \/ ∃ s,x = .const (.string s) /\ bnd (ev σ i) fun i=>v2 P t s i (k · H)
 | .extract x i=>bnd (ev σ x) fun r=>opExt r i (k · H)
 | .call c=>jM P σ H c k
 | .makeMap _ r=>match r with | none=>zbI H k \/ zaS H k | some _=>False
 | .lookup t x i ok=>bnd (ev σ x) fun r=>bnd (ev σ i) fun i=>kM P t H r i ok (k · H)
 | .mapUpdate t m i v | .insert t m i v=>bnd (ev σ m) fun r=>bnd (ev σ i) fun i=>bnd (ev σ v) fun v=>yM P t H r i v k
 | _=>False
section
variable {P : Program} {E : Env} {h : Nat -> Option Obj} {β : Nat -> Value} {H : List Blk} {w : World} {σ : St} {a : Act} {ρ : Option Nat}
theorem jS {o : Oper} (hd : ∀ c,o.op ≠ .defer c) {next : Act -> World -> Prop} {Q : Exit -> Act -> World -> Prop} (hu : o.uponIn (FW ρ) 0 P a next Q ((execOp a.eval o).run P w)) : o.wpIn (FW ρ) 0 P a w next Q:=
 ⟨fun _ _=>trivial,by rw [Oper.semAt_eq _ _ _ hd];exact hu⟩
def gQ (P : Program) (E : Env) (h : Nat -> Option Obj) (β : Nat -> Value) (H : List Blk) (a : Act) (o : Oper) (k : AV -> List Blk -> Prop) (next : Act -> World -> Prop) : Prop:=
 ∀ r H' h' β' w' v,k r H' -> Ext h β H h' β' H' -> SR P E h' β' H' w' -> Rep P h' β' H' r v -> next (a.put o.dst v) w'
theorem yL {o : Oper} {m : Sem Value} (he : execOp a.eval o = (do pure (Next.value (<- m)))) (hd : ∀ c,o.op ≠ .defer c) {k : AV -> List Blk -> Prop} {next : Act -> World -> Prop} {Q : Exit -> Act -> World -> Prop}
  (hn : gQ P E h β H a o k next) (y : zl P E h β H m w k) : o.wpIn (FW ρ) 0 P a w next Q:=by
 obtain ⟨v,w',r,H',h',β',h1,h2,h3,h4,h5⟩:=y
 refine jS hd ?_
 rw [he,Sem.run_bind,h1]
 exact hn r H' h' β' w' v h2 h3 h4 h5
theorem zT {o : Oper} {m : Sem Value} (he : execOp a.eval o = (do pure (Next.value (<- m)))) (hd : ∀ c,o.op ≠ .defer c) {k : AV -> List Blk -> Prop} {next : Act -> World -> Prop} {Q : Exit -> Act -> World -> Prop}
  (hn : gQ P E h β H a o k next) (y : zl P E h β H m w (fun r H'=>H' = H /\ k r H)) : o.wpIn (FW ρ) 0 P a w next Q:=
 yL he hd hn (by obtain ⟨v,w',r,H',h',β',h1,⟨rfl,h2⟩,h3⟩:=y;exact ⟨v,w',r,_,h',β',h1,h2,h3⟩)
theorem kH {o : Oper} {v : Value} (he : execOp a.eval o = pure (Next.value v)) (hd : ∀ c,o.op ≠ .defer c) {k : AV -> List Blk -> Prop} {next : Act -> World -> Prop} {Q : Exit -> Act -> World -> Prop}
  (hn : gQ P E h β H a o k next) (s : SR P E h β H w) {r : AV} (hr : Rep P h β H r v) (hk : k r H) : o.wpIn (FW ρ) 0 P a w next Q:=by
 refine jS hd ?_
 rw [he]
 exact hn r H h β w v hk (Ext.refl _ _ _) s hr
theorem wI {f : FuncId} (he : enters P f) (args : Array Value) : (callFunc f args).run P w = .ok (.enter f args) w:=by
 obtain ⟨fn,h1,h2,h3⟩:=he
 have h2' : ¬ fn.name = "runtime.NumGoroutine" := by simpa using h2
 have h3' : ¬ fn.body = none:=by intro e;rw [e] at h3;cases h3
 simp [callFunc,h1,h2',h3']
theorem zcS {o : Oper} {c : Call} (ho : o.op = .call c) {k : AV -> List Blk -> Prop} (hk : jM P σ H c k) (s : SR P E h β H w) (F : Fits P h β H σ a) {next : Act -> World -> Prop} {Q : Exit -> Act -> World -> Prop}
  (hn : gQ P E h β H a o k next) : o.wpIn (FW ρ) 0 P a w next Q:=by
 have hd : ∀ c,o.op ≠ .defer c:=fun c e=>by rw [ho] at e;cases e
 refine jS hd ?_
 obtain ⟨callee,args,argTypes⟩:=c
 have hex : execOp a.eval o = (do let d <- resolve a.eval ⟨callee,args,argTypes⟩ o.type;invoke d.target d.args):=by unfold execOp;rw [ho]
 rw [hex]
 cases callee with
 | value f =>
   simp only [jM] at hk
   obtain ⟨fv,h1,hk1⟩:=zd hk
   obtain ⟨rs,h2,hk2⟩:=zd hk1
   have hf:=F.ev h1
   have hrs:=F.evL h2
   split at hk2
   ·rename_i g caps
    generalize hv : a.eval f = fval at hf
    cases hf with
    | @fn _ _ vs us hs hc hr =>
      have hcaps : RepL P h β H caps vs.toList:=⟨by simpa using hs,fun j x e=>⟨us j,by simpa using hc j x e,hr j x e⟩⟩
      obtain ⟨hent,hcall⟩:=hk2
      have hc2:=hcall E h β w _ s (hrs.append hcaps)
      have hrun : (do let d <- resolve a.eval ⟨.value f,args,argTypes⟩ o.type;invoke d.target d.args : Sem Next).run P w = .ok (.enter g (args.map a.eval ++ vs)) w:=by
       simp [resolve,hv,Deferred.ofValue,invoke,wI hent]
      rw [hrun]
      have harg : (args.map a.eval ++ vs) = (args.toList.map a.eval ++ vs.toList).toArray:=by apply Array.ext';simp
      rw [harg]
      exact ⟨fun h=>by simp at h,(show CallsIn (FW ρ) (0 - 1) P g _ w _ from hc2.mono fun e w' ⟨r,H',h',β',v,e1,e2,e3,e4,e5⟩=>by subst e1;exact hn r H' h' β' w' v e2 e3 e4 e5)⟩
   ·rename_i g caps
    generalize hv : a.eval f = fval at hf
    cases hf with
    | @bf _ _ vs us hs hc hr =>
      have hcaps : RepL P h β H caps vs.toList:=⟨by simpa using hs,fun j x e=>⟨us j,by simpa using hc j x e,hr j x e⟩⟩
      obtain ⟨hent,hcall⟩:=hk2
      have hc2:=hcall E h β w _ s (hcaps.append hrs)
      have hrun : (do let d <- resolve a.eval ⟨.value f,args,argTypes⟩ o.type;invoke d.target d.args : Sem Next).run P w = .ok (.enter g (vs ++ args.map a.eval)) w:=by
       simp [resolve,hv,Deferred.ofValue,invoke,wI hent]
      rw [hrun]
      have harg : (vs ++ args.map a.eval) = (vs.toList ++ args.toList.map a.eval).toArray:=by apply Array.ext';simp
      rw [harg]
      exact ⟨fun h=>by simp at h,(show CallsIn (FW ρ) (0 - 1) P g _ w _ from hc2.mono fun e w' ⟨r,H',h',β',v,e1,e2,e3,e4,e5⟩=>by subst e1;exact hn r H' h' β' w' v e2 e3 e4 e5)⟩
   ·rename_i i
    generalize hv : a.eval f = fval at hf
    cases hf with
    | @yld _ b hi hb =>
      obtain ⟨_,hy⟩:=hk2
      obtain ⟨f',tmps,assign,body,hrun',hround⟩:=hy E h β w b _ s hrs hb
      have hrun : (do let d <- resolve a.eval ⟨.value f,args,argTypes⟩ o.type;invoke d.target d.args : Sem Next).run P w = .ok (.round b f' tmps assign body) w:=by
       have harg : (#[] ++ args.map a.eval) = (args.toList.map a.eval).toArray:=by apply Array.ext';simp
       simp only [resolve,hv,Deferred.ofValue,invoke,Sem.run_bind,Sem.run_pure,Result.andThen_ok,harg,hrun']
      rw [hrun]
      exact ⟨fun h=>by simp at h,(show RoundIn (FW ρ) (0 - 1) P b f' tmps assign body w _ from hround.mono fun e w' ⟨r,H',h',β',v,e1,e2,e3,e4,e5⟩=>by subst e1;exact hn r H' h' β' w' v e2 e3 e4 e5)⟩
   ·exact hk2.elim
 | builtin b =>
   simp only [jM] at hk
   obtain ⟨rs,h2,hk2⟩:=zd hk
   have hrs:=F.evL h2
   have hres : ∀ (m : Sem Value),(∀ cs,builtin b argTypes o.type cs (args.map a.eval) = (do pure (Next.value (<- m)))) ->
     (do let d <- resolve a.eval ⟨.builtin b,args,argTypes⟩ o.type;invoke d.target d.args : Sem Next).run P w = (do pure (Next.value (<- m)) : Sem Next).run P w:=by
    intro m hm
    simp only [resolve,invoke,Sem.run_bind,Sem.run_pure,Result.andThen_ok]
    rw [hm _,Sem.run_bind];rfl
   have fin : ∀ (m : Sem Value),(∀ cs,builtin b argTypes o.type cs (args.map a.eval) = (do pure (Next.value (<- m)))) -> zl P E h β H m w k ->
     o.uponIn (FW ρ) 0 P a next Q ((do let d <- resolve a.eval ⟨.builtin b,args,argTypes⟩ o.type;invoke d.target d.args : Sem Next).run P w):=by
    intro m hm y
    rw [hres m hm]
    obtain ⟨v,w',r,H',h',β',e1,e2,e3,e4,e5⟩:=y
    rw [Sem.run_bind,e1]
    exact hn r H' h' β' w' v e2 e3 e4 e5
   have fin' : ∀ (m : Sem Value),(∀ cs,builtin b argTypes o.type cs (args.map a.eval) = (do pure (Next.value (<- m)))) -> zl P E h β H m w (fun r H'=>H' = H /\ k r H) ->
     o.uponIn (FW ρ) 0 P a next Q ((do let d <- resolve a.eval ⟨.builtin b,args,argTypes⟩ o.type;invoke d.target d.args : Sem Next).run P w):=by
    intro m hm y
    refine fin m hm ?_
    obtain ⟨v,w',r,H',h',β',h1,⟨rfl,h2⟩,h3⟩:=y;exact ⟨v,w',r,_,h',β',h1,h2,h3⟩
   have hargs : ∀ vs,args.toList.map a.eval = vs -> args.map a.eval = vs.toArray:=fun vs e=>by rw [<- e];apply Array.ext';simp
   have one : ∀ {x},rs = [x] -> ∃ v,args.map a.eval = #[v] /\ Rep P h β H x v:=by
    rintro x rfl
    obtain ⟨l1,l2⟩:=hrs
    obtain ⟨v,g1,g2⟩:=l2 0 x rfl
    match hm : args.toList.map a.eval,l1,g1 with
    | [v'],_,g1=>simp at g1;subst g1;exact ⟨v',hargs _ hm,g2⟩
   have two : ∀ {x y},rs = [x,y] -> ∃ v u,args.map a.eval = #[v,u] /\ Rep P h β H x v /\ Rep P h β H y u:=by
    rintro x y rfl
    obtain ⟨l1,l2⟩:=hrs
    obtain ⟨v,g1,g2⟩:=l2 0 x rfl
    obtain ⟨u,g3,g4⟩:=l2 1 y rfl
    match hm : args.toList.map a.eval,l1,g1,g3 with
    | [v',u'],_,g1,g3=>simp at g1 g3;subst g1;subst g3;exact ⟨v',u',hargs _ hm,g2,g4⟩
   unfold gz at hk2
   split at hk2
   ·rename_i t x hts
    obtain ⟨v,h3,h4⟩:=one rfl
    refine fin' (Builtin.len_ argTypes o.type (args.map a.eval)) (fun _=>rfl) ?_
    rw [h3,show argTypes = #[t] from by apply Array.ext';simpa using hts]
    exact zeq s h4 hk2
   ·rename_i t t' x y hts
    obtain ⟨v,u,h3,h4,h5⟩:=two rfl
    obtain ⟨rfl,hk3⟩:=hk2
    refine fin (Builtin.append_ argTypes o.type (args.map a.eval)) (fun _=>rfl) ?_
    rw [h3,show argTypes = #[t,t] from by apply Array.ext';simpa using hts]
    exact zbd s h4 h5 hk3
   ·obtain ⟨v,u,h3,h4,h5⟩:=two rfl
    refine fin' (Builtin.min_ argTypes o.type (args.map a.eval)) (fun _=>rfl) ?_
    rw [h3]
    exact zd1 s h4 h5 hk2
   ·obtain ⟨v,u,h3,h4,h5⟩:=two rfl
    refine fin' (Builtin.max_ argTypes o.type (args.map a.eval)) (fun _=>rfl) ?_
    rw [h3]
    exact zel s h4 h5 hk2
   ·rename_i t t' x y hts
    obtain ⟨v,u,h3,h4,h5⟩:=two rfl
    refine fin (Builtin.copy_ argTypes o.type (args.map a.eval)) (fun _=>rfl) ?_
    rw [h3,show argTypes = #[t,t'] from by apply Array.ext';simpa using hts]
    exact zdk s h4 h5 hk2
   ·rename_i t x hts
    obtain ⟨v,h3,h4⟩:=one rfl
    refine fin (Builtin.clear_ argTypes o.type (args.map a.eval)) (fun _=>rfl) ?_
    rw [h3,show argTypes = #[t] from by apply Array.ext';simpa using hts]
    exact zbl s h4 hk2
   ·exact hk2.elim
 | invoke r m=>exact hk.elim
end
end GA
end
section
namespace GA
open Go Go.RowKit
def gate (all : List Oper) (σ : St) (g : Option (Nat × Bool)) (A B : Prop) : Prop:=
 match g with
 | none=>A
 | some (j,want)=>bnd ((all[j]?).bind (·.dst)) fun d=>bnd (σ d) fun r =>
   match r with
   | .bool b=>Br (b == want) A B
   | .tup []=>B
   | _=>False
section
variable {P : Program} {E : Env} {h : Nat -> Option Obj} {β : Nat -> Value} {H : List Blk} {w : World} {σ : St} {a : Act} {ρ : Option Nat}
theorem gI {o : Oper} {m : Sem Unit} (he : execOp a.eval o = (do m;pure Next.skip)) (hd : ∀ c,o.op ≠ .defer c) {k : AV -> List Blk -> Prop} {next : Act -> World -> Prop} {Q : Exit -> Act -> World -> Prop}
  (hn : gQ P E h β H a o k next) (y : zdj P E h β H m w k) : o.wpIn (FW ρ) 0 P a w next Q:=by
 obtain ⟨w',H',h',β',h1,h2,h3,h4⟩:=y
 refine jS hd ?_
 rw [he,Sem.run_bind,h1]
 exact hn (.tup []) H' h' β' w' undef h2 h3 h4 (.tup (fun _=>undef) rfl (by simp) (by simp))
theorem yC {α γ : Type} (f : α -> γ) (x : Array α) : x.map f = (x.toList.map f).toArray:=by apply Array.ext';simp
theorem zcG (F : Fits P h β H σ a) {x : Option Operand} {r : Option AV} (e : evO σ x = some r) : (r = none /\ x.map a.eval = none) \/ ∃ q u,r = some q /\ x.map a.eval = some u /\ Rep P h β H q u:=by
 rcases RepO.ev F e with ⟨rfl,rfl⟩ | ⟨o,v,rfl,rfl,hr⟩
 ·exact .inl ⟨rfl,rfl⟩
 ·exact .inr ⟨v,_,rfl,rfl,hr⟩
theorem AOp.sound {own : List Nat} {o : Oper} {k : AV -> List Blk -> Prop} (hk : AOp P own o.dst σ H k o.op) (s : SR P E h β H w) (F : Fits P h β H σ a) {next : Act -> World -> Prop} {Q : Exit -> Act -> World -> Prop}
  (hn : gQ P E h β H a o k next) : o.wpIn (FW ρ) 0 P a w next Q:=by
 generalize ho : o.op = op at hk
 have hd : (∀ c,op ≠ .defer c) -> ∀ c,o.op ≠ .defer c:=fun hh c=>by rw [ho];exact hh c
 have hex : ∀ s,execOp a.eval { o with op:=op } = s -> execOp a.eval o = s:=fun s e=>by rw [<- e];cases o;cases ho;rfl
 cases op with
 | move x =>
   obtain ⟨r,h1,hk⟩:=zd hk
   exact kH (hex _ rfl) (hd (by simp)) hn s (F.ev h1) hk
 | assign x =>
   obtain ⟨r,h1,hk⟩:=zd hk
   exact kH (hex _ rfl) (hd (by simp)) hn s (F.ev h1) hk
 | pick c x y =>
   obtain ⟨r,h1,hk⟩:=zd hk
   split at hk
   ·rename_i q
    have hc:=k6 (F.ev h1)
    cases q with
    | true =>
      rw [Br_true] at hk
      obtain ⟨r,h2,hk⟩:=zd hk
      exact kH (v:=a.eval x) (hex _ (by show (do pure (Next.value (if <- asBool (a.eval c) then a.eval x else a.eval y)) : Sem Next) = _;rw [hc];rfl)) (hd (by simp)) hn s (F.ev h2) hk
    | false =>
      rw [zdH] at hk
      obtain ⟨r,h2,hk⟩:=zd hk
      exact kH (v:=a.eval y) (hex _ (by show (do pure (Next.value (if <- asBool (a.eval c) then a.eval x else a.eval y)) : Sem Next) = _;rw [hc];rfl)) (hd (by simp)) hn s (F.ev h2) hk
   ·exact hk.elim
 | alloc t =>
   obtain ⟨z,h1,hk⟩:=zd hk
   exact yL (hex _ rfl) (hd (by simp)) hn (zdM s h1 hk)
 | box t x =>
   obtain ⟨r,h1,hk⟩:=zd hk
   split at hk
   ·exact yL (hex _ rfl) (hd (by simp)) hn (fY s (F.ev h1) hk)
   ·exact yL (hex _ rfl) (hd (by simp)) hn (zeI s (F.ev h1) hk)
 | build t ps =>
   obtain ⟨rs,h1,hk⟩:=zd hk
   obtain ⟨e1,e2⟩:=evP_ok F h1
   refine zT (hex _ rfl) (hd (by simp)) hn ?_
   rw [yC]
   exact zbt s e1 e2 hk
 | buildSlice t n ps =>
   obtain ⟨rs,h1,hk⟩:=zd hk
   refine yL (hex _ rfl) (hd (by simp)) hn ?_
   rw [yC]
   exact v5 s F h1 hk
 | load t x =>
   obtain ⟨r,h1,hk⟩:=zd hk
   exact zT (hex _ rfl) (hd (by simp)) hn (zdc s (F.ev h1) hk)
 | store t x v =>
   obtain ⟨r,h1,hk⟩:=zd hk
   obtain ⟨u,h2,hk⟩:=zd hk
   exact gI (hex _ rfl) (hd (by simp)) hn (zbo s (F.ev h1) (F.ev h2) hk)
 | nilCheck x =>
   obtain ⟨r,h1,hk⟩:=zd hk
   have hr:=F.ev h1
   have key : k r H -> (∃ ad,a.eval x = .pointer (some ad)) \/ (∃ f us vs,a.eval x = .func (.func f) us vs) -> o.wpIn (FW ρ) 0 P a w next Q:=by
    intro hk hv
    refine kH (v:=a.eval x) (hex _ ?_) (hd (by simp)) hn s hr hk
    unfold execOp
    rcases hv with ⟨ad,e⟩ | ⟨f,us,vs,e⟩ <;> simp only [e]
   unfold zav at hk
   split at hk
   ·generalize a.eval x = v at hr key
    cases hr;exact key hk (.inl ⟨_,rfl⟩)
   ·generalize a.eval x = v at hr key
    cases hr;exact key hk (.inl ⟨_,rfl⟩)
   ·generalize a.eval x = v at hr key
    cases hr;exact key hk (.inl ⟨_,rfl⟩)
   ·generalize a.eval x = v at hr key
    cases hr;exact key hk (.inr ⟨_,_,_,rfl⟩)
   ·generalize a.eval x = v at hr key
    cases hr;exact key hk (.inr ⟨_,_,_,rfl⟩)
   ·exact hk.elim
 | binOp op t x y yt =>
   obtain ⟨u,h1,hk⟩:=zd hk
   obtain ⟨v,h2,hk⟩:=zd hk
   refine zT (hex _ rfl) (hd (by simp)) hn ?_
   obtain ⟨v,w',r,H',h',β',e1,⟨rfl,e2⟩,e3⟩:=zcH s (F.ev h1) (F.ev h2) (k:=(k · H)) hk x y
   exact ⟨v,w',r,_,h',β',e1,⟨rfl,e2⟩,e3⟩
 | unOp op t x =>
   obtain ⟨r,h1,hk⟩:=zd hk
   exact zT (hex _ rfl) (hd (by simp)) hn (zeJ s (F.ev h1) hk)
 | convert t d x =>
   obtain ⟨r,h1,hk⟩:=zd hk
   exact zT (hex _ rfl) (hd (by simp)) hn (zcL s (F.ev h1) hk)
 | makeFunc fn first caps =>
   cases fn with
   | func f =>
     rcases hk with ⟨h0,hk⟩ | ⟨h0,hk⟩
     ·obtain ⟨cs,h1,hk⟩:=zd hk
      have hcs:=F.evL h1
      have h0' : first = #[]:=Array.eq_empty_of_size_eq_zero h0
      subst h0'
      refine kH (v:=.func (.func f) #[] (caps.map a.eval)) (hex _ (by show (do pure (Next.value (<- Instr.makeFunc (.func f) ((#[] : Array Operand).map a.eval) (caps.map a.eval))) : Sem Next) = _;rw [Array.map_empty];rfl)) (hd (by simp)) hn s ?_ hk
      exact .fn (fun j=>(caps.map a.eval).getD j undef) (by simpa using hcs.1) (fun j x e=>by
       obtain ⟨v,g1,_⟩:=hcs.2 j x e
       rw [yC];simp only [List.getElem?_toArray];rw [g1];simp [g1]) (fun j x e=>by
       obtain ⟨v,g1,g2⟩:=hcs.2 j x e
       have : (caps.map a.eval).getD j undef = v:=by rw [yC];simp [g1]
       rw [this];exact g2)
     ·obtain ⟨cs,h1,hk⟩:=zd hk
      have hcs:=F.evL h1
      have h0' : caps = #[]:=Array.eq_empty_of_size_eq_zero h0
      subst h0'
      refine kH (v:=.func (.func f) (first.map a.eval) #[]) (hex _ (by show (do pure (Next.value (<- Instr.makeFunc (.func f) (first.map a.eval) ((#[] : Array Operand).map a.eval))) : Sem Next) = _;rw [Array.map_empty];rfl)) (hd (by simp)) hn s ?_ hk
      exact .bf (fun j=>(first.map a.eval).getD j undef) (by simpa using hcs.1) (fun j x e=>by
       obtain ⟨v,g1,_⟩:=hcs.2 j x e
       rw [yC];simp only [List.getElem?_toArray];rw [g1];simp [g1]) (fun j x e=>by
       obtain ⟨v,g1,g2⟩:=hcs.2 j x e
       have : (first.map a.eval).getD j undef = v:=by rw [yC];simp [g1]
       rw [this];exact g2)
   | _=>exact hk.elim
 | makeSlice t l c =>
   obtain ⟨l',h1,hk⟩:=zd hk
   obtain ⟨c',h2,hk⟩:=zd hk
   exact yL (hex _ rfl) (hd (by simp)) hn (qB s (F.ev h1) (F.ev h2) hk)
 | slice t x lo hi mx =>
   obtain ⟨r,h1,hk⟩:=zd hk
   obtain ⟨lo',h2,hk⟩:=zd hk
   obtain ⟨hi',h3,hk⟩:=zd hk
   obtain ⟨mx',h4,hk⟩:=zd hk
   exact zT (hex _ rfl) (hd (by simp)) hn (zaE s (F.ev h1) (zcG F h2) (zcG F h3) (zcG F h4) hk)
 | fieldAddr t x f =>
   obtain ⟨r,h1,hk⟩:=zd hk
   exact zT (hex _ rfl) (hd (by simp)) hn (q0 s (F.ev h1) hk)
 | field t x f =>
   obtain ⟨r,h1,hk⟩:=zd hk
   exact zT (hex _ rfl) (hd (by simp)) hn (zbr s (F.ev h1) hk)
 | indexAddr t x i =>
   obtain ⟨r,h1,hk⟩:=zd hk
   obtain ⟨i',h2,hk⟩:=zd hk
   exact zT (hex _ rfl) (hd (by simp)) hn (qY s (F.ev h1) (F.ev h2) hk)
 | index t x i =>
   rcases hk with hk | ⟨c,rfl,hk⟩
   ·obtain ⟨r,h1,hk⟩:=zd hk
    obtain ⟨i',h2,hk⟩:=zd hk
    exact zT (hex _ rfl) (hd (by simp)) hn (zbw s (F.ev h1) (F.ev h2) hk)
   ·obtain ⟨i',h2,hk⟩:=zd hk
    exact zT (hex _ rfl) (hd (by simp)) hn (gu s (F.ev h2) hk)
 | extract x i =>
   obtain ⟨r,h1,hk⟩:=zd hk
   exact zT (hex _ rfl) (hd (by simp)) hn (zdX s (F.ev h1) hk)
 | call c=>exact zcS ho hk s F hn
 | makeMap t r =>
   cases r with
   | none =>
     rcases hk with hk | hk
     ·exact yL (hex _ rfl) (hd (by simp)) hn (fD s hk)
     ·exact yL (hex _ rfl) (hd (by simp)) hn (gE s hk)
   | some r=>exact hk.elim
 | lookup t x i ok =>
   obtain ⟨r,h1,hk⟩:=zd hk
   obtain ⟨i',h2,hk⟩:=zd hk
   exact zT (hex _ rfl) (hd (by simp)) hn (fE s (F.ev h1) (F.ev h2) hk)
 | mapUpdate t m i v =>
   obtain ⟨r,h1,hk⟩:=zd hk
   obtain ⟨i',h2,hk⟩:=zd hk
   obtain ⟨v',h3,hk⟩:=zd hk
   exact gI (hex _ rfl) (hd (by simp)) hn (wA s (F.ev h1) (F.ev h2) (F.ev h3) hk)
 | insert t m i v =>
   obtain ⟨r,h1,hk⟩:=zd hk
   obtain ⟨i',h2,hk⟩:=zd hk
   obtain ⟨v',h3,hk⟩:=zd hk
   exact gI (hex _ rfl) (hd (by simp)) hn (wA s (F.ev h1) (F.ev h2) (F.ev h3) hk)
 | _=>exact hk.elim
theorem ft {all : List Oper} {o : Oper} {A B : Prop} (F : Fits P h β H σ a) (hg : gate all σ o.guard A B) :
  (Region.wanted o (yielded all.toArray a.tmps) = true /\ A) \/ (Region.wanted o (yielded all.toArray a.tmps) = false /\ B):=by
 unfold gate at hg
 unfold Region.wanted
 cases hgd : o.guard with
 | none=>rw [hgd] at hg;exact .inl ⟨rfl,hg⟩
 | some p =>
   obtain ⟨j,want⟩:=p
   rw [hgd] at hg
   obtain ⟨d,h1,hg1⟩:=zd hg
   obtain ⟨r,h2,hg2⟩:=zd hg1
   obtain ⟨v,h3,h4⟩:=F d r h2
   have hy : ∀ b,v = .bool b -> yielded all.toArray a.tmps j = some b:=by
    rintro b rfl
    unfold yielded
    simp only [List.getElem?_toArray,h1,Option.bind_some,h3]
   have hy' : v = .tuple #[] -> yielded all.toArray a.tmps j = none:=by
    rintro rfl
    unfold yielded
    simp only [List.getElem?_toArray,h1,Option.bind_some,h3]
   dsimp only
   split at hg2
   ·rename_i b
    have:=hy b (k6 h4)
    rw [this]
    by_cases hb : b = want
    ·subst hb;simp [Br] at hg2 ⊢;exact hg2
    ·have hb2 : (b == want) = false:=by cases b <;> cases want <;> simp at hb ⊢
     rw [hb2,zdH] at hg2
     right
     refine ⟨?_,hg2⟩
     cases b <;> cases want <;> simp at hb ⊢
   ·cases h4 with
    | @tup _ vs us hs hc hr =>
      have : vs = #[]:=Array.eq_empty_of_size_eq_zero hs
      subst this
      rw [hy' rfl]
      exact .inr ⟨rfl,hg2⟩
   ·exact hg2.elim
theorem zbW : Rep P h β H (.tup []) undef:=.tup (fun _=>undef) rfl (by simp) (by simp)
structure Keeps (a a' : Act) : Prop where
 size : a'.tmps.size = a.tmps.size
 defers : a'.defers = a.defers
end
end GA
end
section
namespace GA
open Go Go.RowKit
abbrev Post:=Exit -> List Nat -> St -> List Blk -> Prop
inductive DfL (P : Program) (h : Nat -> Option Obj) (β : Nat -> Value) (H : List Blk) (en : Nat -> Option Obj) : List Nat -> List Deferred -> Prop
 | nil : DfL P h β H en [] []
 | own {i b D ds} (r : Rep P h β H (.yld i) (.func (.yield b) #[] #[])) (t : DfL P h β H en D ds) : DfL P h β H en (i :: D) ({ target:=.collected b,args:=#[] } :: ds)
 | lost {b D ds} (hb : h b = some (.deferred (some []))) (he : en b = none) (nd : ∀ b',({ target:=.collected b',args:=#[] } : Deferred) ∈ ds -> b' ≠ b) (t : DfL P h β H en D ds) : DfL P h β H en D ({ target:=.collected b,args:=#[] } :: ds)
structure DfOk (P : Program) (E : Env) (h : Nat -> Option Obj) (β : Nat -> Value) (H : List Blk) (D : List Nat) (ds : List Deferred) : Prop where
 en : ∀ b o,E.en b = some o -> h b = some o
 l : DfL P h β H E.en D ds
structure yS (P : Program) (E : Env) (N : Nat) (h : Nat -> Option Obj) (β : Nat -> Value) (D : List Nat) (σ : St) (H : List Blk) (a : Act) (w : World) : Prop where
 sr : SR P E h β H w
 fits : Fits P h β H σ a
 size : a.tmps.size = N
 df : DfOk P E h β H D a.defers
def Conc (P : Program) (E : Env) (N : Nat) (h : Nat -> Option Obj) (β : Nat -> Value) (H : List Blk) (Q : Post) (e : Exit) (a : Act) (w : World) : Prop:=
 ∃ D' σ' H' h' β',Q e D' σ' H' /\ Ext h β H h' β' H' /\ yS P E N h' β' D' σ' H' a w
def AWp (P : Program) (N : Nat) (ρ : Option Nat) (c : Code) (Q : Post) (D : List Nat) (σ : St) (H : List Blk) : Prop:=
 ∀ E h β a w,yS P E N h β D σ H a w -> c.wpIn (FW ρ) 0 P (Conc P E N h β H Q) a w
def yW (K : List Nat -> St -> List Blk -> Prop) (Q : Post) : Post
 | .normal,D,σ,H=>K D σ H
 | e,D,σ,H=>Q e D σ H
def zbj (id : Nat) (Q : Post) : Post
 | .exit id',D,σ,H=>if id' = id then Q .normal D σ H else Q (.exit id') D σ H
 | e,D,σ,H=>Q e D σ H
section
variable {P : Program} {N : Nat} {ρ : Option Nat} {D : List Nat} {σ : St} {H : List Blk} {Q : Post}
theorem DfL.ext {h h' : Nat -> Option Obj} {β β' : Nat -> Value} {H H' : List Blk} {en : Nat -> Option Obj} (X : Ext h β H h' β' H') {D : List Nat} {ds : List Deferred} (d : DfL P h β H en D ds) : DfL P h' β' H' en D ds:=by
 induction d with
 | nil=>exact .nil
 | own r _ ih=>exact .own (X.rep r) ih
 | lost hb he nd _ ih=>exact .lost (X.imm _ _ hb) he nd ih
theorem DfOk.ext {E : Env} {h h' : Nat -> Option Obj} {β β' : Nat -> Value} {H H' : List Blk} {ds : List Deferred} (d : DfOk P E h β H D ds) (X : Ext h β H h' β' H') : DfOk P E h' β' H' D ds:=
 ⟨fun b o e=>X.imm b o (d.en b o e),d.l.ext X⟩
theorem DfL.any {h : Nat -> Option Obj} {β β' : Nat -> Value} {H H' : List Blk} {en : Nat -> Option Obj} {D : List Nat} {ds : List Deferred} (d : DfL P h β H en D ds) (hD : D = []) : DfL P h β' H' en D ds:=by
 induction d with
 | nil=>exact .nil
 | own r _ ih=>cases hD
 | lost hb he nd _ ih=>exact .lost hb he nd (ih hD)
theorem DfOk.any {E : Env} {h : Nat -> Option Obj} {β β' : Nat -> Value} {H H' : List Blk} {ds : List Deferred} (d : DfOk P E h β H [] ds) : DfOk P E h β' H' [] ds:=⟨d.en,d.l.any rfl⟩
theorem Conc.mono {E : Env} {h : Nat -> Option Obj} {β : Nat -> Value} {Q' : Post} (hq : ∀ e D σ H,Q e D σ H -> Q' e D σ H) {e : Exit} {a : Act} {w : World} (x : Conc P E N h β H Q e a w) : Conc P E N h β H Q' e a w:=
 let ⟨D',σ',H',h',β',q,r⟩:=x;⟨D',σ',H',h',β',hq _ _ _ _ q,r⟩
theorem Conc.ext {E : Env} {h h' : Nat -> Option Obj} {β β' : Nat -> Value} {H' : List Blk} (X : Ext h β H h' β' H') {e : Exit} {a : Act} {w : World} (x : Conc P E N h' β' H' Q e a w) : Conc P E N h β H Q e a w:=
 let ⟨D',σ',H'',h'',β'',q,X',r⟩:=x;⟨D',σ',H'',h'',β'',q,X.trans X',r⟩
theorem AWp.mono {c : Code} {Q' : Post} (x : AWp P N ρ c Q D σ H) (hq : ∀ e D σ H,Q e D σ H -> Q' e D σ H) : AWp P N ρ c Q' D σ H:=
 fun E h β a w s=>wpIn_mono (x E h β a w s) fun _ _ _=>Conc.mono hq
theorem AWp.weaken {c : Code} {σ' : St} (hs : ∀ t r,σ' t = some r -> σ t = some r) (x : AWp P N ρ c Q D σ' H) : AWp P N ρ c Q D σ H:=
 fun E h β a w s=>x E h β a w ⟨s.sr,fun t r e=>s.fits t r (hs t r e),s.size,s.df⟩
theorem AWp.seq {c d : Code} (x : AWp P N ρ c (yW (AWp P N ρ d Q) Q) D σ H) : AWp P N ρ (.seq c d) Q D σ H:=by
 intro E h β a w s
 refine wpIn_seq (wpIn_mono (x E h β a w s) ?_)
 rintro e a' w' ⟨D',σ',H',h',β',q,X,s'⟩
 cases e with
 | normal=>exact wpIn_mono (q E h' β' a' w' s') fun _ _ _=>Conc.ext X
 | _=>exact ⟨D',σ',H',h',β',q,X,s'⟩
theorem AWp.skip (x : Q .normal D σ H) : AWp P N ρ .skip Q D σ H:=
 fun _ h β _ _ s=>wpIn_skip ⟨D,σ,H,h,β,x,Ext.refl _ _ _,s⟩
theorem AWp.exit {id : Nat} (x : Q (.exit id) D σ H) : AWp P N ρ (.exit id) Q D σ H:=
 fun _ h β _ _ s=>wpIn_exit ⟨D,σ,H,h,β,x,Ext.refl _ _ _,s⟩
theorem AWp.ret (x : Q .ret D σ H) : AWp P N ρ .ret Q D σ H:=
 fun _ h β _ _ s=>wpIn_ret ⟨D,σ,H,h,β,x,Ext.refl _ _ _,s⟩
theorem AWp.cond {c : Operand} {x y : Code} {b : Bool} (hc : ev σ c = some (.bool b)) (h1 : b = true -> AWp P N ρ x Q D σ H) (h2 : b = false -> AWp P N ρ y Q D σ H) : AWp P N ρ (.cond c x y) Q D σ H:=by
 intro E h β a w s
 have hv:=k6 (s.fits.ev hc)
 cases b with
 | true=>exact wpIn_cond_true hv (h1 rfl E h β a w s)
 | false=>exact wpIn_cond_false hv (h2 rfl E h β a w s)
theorem AWp.block {id : Nat} {c : Code} (x : AWp P N ρ c (zbj id Q) D σ H) : AWp P N ρ (.block id c) Q D σ H:=by
 intro E h β a w s
 refine wpIn_block (wpIn_mono (x E h β a w s) ?_)
 rintro e a' w' ⟨D',σ',H',h',β',q,X,s'⟩
 cases e with
 | exit id' =>
   simp only [Exit.inBlock]
   by_cases hid : id' = id
   ·rw [if_pos hid];simp only [zbj,hid,if_true] at q;exact ⟨D',σ',H',h',β',q,X,s'⟩
   ·rw [if_neg hid];simp only [zbj,hid,if_false] at q;exact ⟨D',σ',H',h',β',q,X,s'⟩
 | _=>exact ⟨D',σ',H',h',β',q,X,s'⟩
theorem kq {p : Nat -> Prop} (h : ∃ n,p n) : ∃ n,p n /\ ∀ m,m < n -> ¬ p m:=by
 obtain ⟨n,hn⟩:=h
 induction n using Nat.strongRecOn with
 | _ n ih =>
   by_cases hm : ∃ m,m < n /\ p m
   ·obtain ⟨m,h1,h2⟩:=hm;exact ih m h1 h2
   ·exact ⟨n,hn,fun m h1 h2=>hm ⟨m,h1,h2⟩⟩
theorem AWp.loop {c : Code} {G : Type} (st : G -> St) (hp : G -> List Blk) (μ : G -> Nat) (g0 : G) (hσ : ∀ t r,st g0 t = some r -> σ t = some r) (hH : hp g0 = H)
  (round : ∀ g,AWp P N ρ c (yW (fun D' σ' H'=>D' = D /\ ∃ g',μ g' < μ g /\ hp g' = H' /\ ∀ t r,st g' t = some r -> σ' t = some r) Q) D (st g) (hp g)) : AWp P N ρ (.loop c) Q D σ H:=by
 intro E h β a w s
 subst hH
 let I : G -> Act -> World -> Prop:=fun g a w=>∃ h' β',Ext h β (hp g0) h' β' (hp g) /\ yS P E N h' β' D (st g) (hp g) a w
 have least : ∀ a w,(∃ g,I g a w) -> ∃ n,(∃ g,I g a w /\ μ g = n) /\ ∀ m,m < n -> ¬ ∃ g,I g a w /\ μ g = m:=
  fun a w ⟨g,hg⟩=>kq ⟨μ g,g,hg,rfl⟩
 classical
 let M : Act -> World -> Nat:=fun a w=>if e : ∃ g,I g a w then Classical.choose (least a w e) else 0
 have hM : ∀ a w (e : ∃ g,I g a w),(∃ g,I g a w /\ μ g = M a w) /\ ∀ g,I g a w -> M a w <= μ g:=by
  intro a w e
  have hc:=Classical.choose_spec (least a w e)
  have hm : M a w = Classical.choose (least a w e):=by simp only [M,dif_pos e]
  rw [hm]
  refine ⟨hc.1,fun g hg=>?_⟩
  rcases Nat.lt_or_ge (μ g) (Classical.choose (least a w e)) with hlt | hge
  ·exact absurd ⟨g,hg,rfl⟩ (hc.2 _ hlt)
  ·exact hge
 refine wpIn_loop (fun a w=>∃ g,I g a w) M ⟨g0,h,β,Ext.refl _ _ _,s.sr,fun t r e=>s.fits t r (hσ t r e),s.size,s.df⟩ ?_
 intro a' w' hI
 obtain ⟨⟨g,hg,hmu⟩,_⟩:=hM a' w' hI
 obtain ⟨h',β',X,s'⟩:=hg
 refine wpIn_mono (round g E h' β' a' w' s') ?_
 rintro e a'' w'' ⟨D'',σ'',H'',h'',β'',q,X',s''⟩
 cases e with
 | normal =>
   obtain ⟨rfl,g',hlt,rfl,hsub⟩:=q
   have hI' : I g' a'' w'':=⟨h'',β'',X.trans X',s''.sr,fun t r e=>s''.fits t r (hsub t r e),s''.size,s''.df⟩
   refine ⟨⟨g',hI'⟩,?_⟩
   have:=(hM a'' w'' ⟨g',hI'⟩).2 g' hI'
   omega
 | _=>exact ⟨D'',σ'',H'',h'',β'',q,X.trans X',s''⟩
end
mutual
def AV.low (n : Nat) : AV -> Bool
 | .ptr i _ | .gr i _ | .gp i _ _ _ | .mp i | .yld i | .os i _ _ _=>decide (i < n)
 | .pim cs | .sl _ cs | .fn _ cs | .bf _ cs | .agg cs | .tup cs | .im _ cs=>lowL n cs
 | _=>true
def lowL (n : Nat) : List AV -> Bool
 | []=>true
 | x :: l=>x.low n && lowL n l
end
def Blk.low (n : Nat) : Blk -> Bool
 | .cells cs | .grow _ _ cs=>lowL n cs
 | .map es=>lowL n (es.map (·.2))
 | .pm es=>lowL n (es.map (·.2))
 | .lp _ _ _ tm _ _ _ _=>lowL n (tm.map (·.2))
 | _=>true
def resA (P : Program) (σ : St) (H : List Blk) : List ResultVar -> (List AV -> Prop) -> Prop
 | [],k=>k []
 | .tmp t :: l,k=>bnd (σ t) fun r=>resA P σ H l fun rs=>k (r :: rs)
 | .cell a t :: l,k=>bnd (σ a) fun p=>y0 P t H p fun r=>resA P σ H l fun rs=>k (r :: rs)
def pack : List AV -> AV
 | [r]=>r
 | rs=>.tup rs
def FnPost (P : Program) (res : List ResultVar) (H0 : List Blk) (k : AV -> List Blk -> Prop) : Post:=fun e D σ H =>
 (e = .normal \/ e = .ret) /\ ∃ H1 l,H = H1 ++ l /\ H0.length <= H1.length /\ (∀ x ∈ H1,x ∈ H0 \/ x.low H1.length = true) /\ D.Nodup /\
  (∀ i ∈ D,H1.length <= i /\ H[i]? = some (.raw (.deferred (some [])))) /\ resA P σ H res fun rs=>(pack rs).low H1.length = true /\ k (pack rs) H1
section
variable {P : Program} {N : Nat} {E : Env} {h : Nat -> Option Obj} {β : Nat -> Value} {H : List Blk} {w : World} {σ : St} {a : Act}
theorem zt {n : Nat} : ∀ {l : List AV},lowL n l = true ↔ ∀ x ∈ l,x.low n = true
 | []=>by simp [lowL]
 | x :: l=>by simp [lowL,zt (l:=l)]
theorem AV.low_mono {n m : Nat} (hl : n <= m) : ∀ {a : AV},a.low n = true -> a.low m = true:=by
 intro a
 induction a using AV.rec (motive_2:=fun l=>lowL n l = true -> lowL m l = true) with
 | ptr | gr | gp | mp | yld | os=>simp only [AV.low,decide_eq_true_eq];omega
 | pim _ ih | sl _ _ ih | fn _ _ ih | bf _ _ ih | agg _ ih | tup _ ih | im _ _ ih=>simpa only [AV.low] using ih
 | nil=>rfl
 | cons x l h1 h2=>rename_i e;simp only [lowL,Bool.and_eq_true] at e ⊢;exact ⟨h1 e.1,h2 e.2⟩
 | _=>exact fun _=>rfl
theorem lowL_mono {n m : Nat} (hl : n <= m) {l : List AV} (e : lowL n l = true) : lowL m l = true:=by
 rw [zt] at e ⊢;exact fun x hx=>AV.low_mono hl (e x hx)
theorem low_mono {n m : Nat} (hl : n <= m) {x : Blk} (e : x.low n = true) : x.low m = true:=by
 cases x <;> first | rfl|exact lowL_mono hl e
theorem zcj {n : Nat} {e : AV} : e.low n = true ↔ ∀ x ∈ e.cells,x.low n = true:=by
 cases e <;> simp [AV.cells]
 simp [AV.low,zt]
theorem jb {n : Nat} {l : List AV} : lowL n l = true ↔ ∀ x ∈ flat l,x.low n = true:=by
 rw [zt]
 constructor
 ·intro hb x hx
  obtain ⟨e,he,hx⟩:=List.mem_flatMap.1 hx
  exact zcj.1 (hb e he) x hx
 ·intro hb e he
  exact zcj.2 fun x hx=>hb x (List.mem_flatMap.2 ⟨e,he,hx⟩)
theorem yX {α : Type} {l : List α} {x : α} (hx : x ∈ l) : ∃ j : Nat,l[j]? = some x:=List.mem_iff_getElem?.1 hx
theorem Rep.low {r : AV} {v : Value} (hr : Rep P h β H r v) : r.low H.length = true:=by
 induction hr with
 | ptr hi=>have:=hi.lt;simp [AV.low,this]
 | gr _ hi=>have:=hi.lt;simp [AV.low,this]
 | gp hi=>have:=hi.lt;simp [AV.low,this]
 | mp hi=>have:=hi.lt;simp [AV.low,this]
 | yld hi=>have:=hi.lt;simp [AV.low,this]
 | os hi=>have:=hi.lt;simp [AV.low,this]
 | pim us _ _ _ _ ih=>simp only [AV.low];rw [zt];intro x hx;obtain ⟨j,e⟩:=yX hx;exact ih j x e
 | sl us _ _ _ _ _ _ _ _ _ ih=>simp only [AV.low];rw [jb];intro x hx;obtain ⟨j,e⟩:=yX hx;exact ih j x e
 | fn us _ _ _ ih=>simp only [AV.low];rw [zt];intro x hx;obtain ⟨j,e⟩:=yX hx;exact ih j x e
 | bf us _ _ _ ih=>simp only [AV.low];rw [zt];intro x hx;obtain ⟨j,e⟩:=yX hx;exact ih j x e
 | agg us _ _ _ _ ih=>simp only [AV.low];rw [zt];intro x hx;obtain ⟨j,e⟩:=yX hx;exact ih j x e
 | tup us _ _ _ ih=>simp only [AV.low];rw [zt];intro x hx;obtain ⟨j,e⟩:=yX hx;exact ih j x e
 | im us _ _ _ _ _ _ ih=>simp only [AV.low];rw [zt];intro x hx;obtain ⟨j,e⟩:=yX hx;exact ih j x e
 | _=>rfl
theorem Rep.cut {l : List Blk} {r : AV} {v : Value} (hr : Rep P h β (H ++ l) r v) (hb : r.low H.length = true) : Rep P h β H r v:=by
 have hg : ∀ {i : Nat},i < H.length -> (H ++ l)[i]? = H[i]?:=fun hi=>List.getElem?_append_left hi
 induction hr with
 | bool b=>exact .bool b
 | int k n=>exact .int k n
 | nilp=>exact .nilp
 | ptr hi h1=>simp only [AV.low,decide_eq_true_eq] at hb;exact .ptr (hi.app hb) (by rw [hg hb] at h1;exact h1)
 | pim us h1 h2 h3 _ ih =>
   simp only [AV.low] at hb;rw [zt] at hb
   exact .pim us h1 h2 h3 fun j x e=>ih j x e (hb x (List.mem_of_getElem? e))
 | slnil=>exact .slnil
 | slemp=>exact .slemp
 | sl us h1 h2 h3 h4 h5 h6 h7 h8 _ ih =>
   simp only [AV.low] at hb;rw [jb] at hb
   exact .sl us h1 h2 h3 h4 h5 h6 h7 h8 fun j x e=>ih j x e (hb x (List.mem_of_getElem? e))
 | se=>exact .se
 | gr ho hi h1=>simp only [AV.low,decide_eq_true_eq] at hb;exact .gr ho (hi.app hb) (by rw [hg hb] at h1;exact h1)
 | gp hi h1=>simp only [AV.low,decide_eq_true_eq] at hb;exact .gp (hi.app hb) (by rw [hg hb] at h1;exact h1)
 | nilm=>exact .nilm
 | mp hi h1=>simp only [AV.low,decide_eq_true_eq] at hb;exact .mp (hi.app hb) (by rw [hg hb] at h1;exact h1)
 | nilf=>exact .nilf
 | yld hi h1=>simp only [AV.low,decide_eq_true_eq] at hb;exact .yld (hi.app hb) (by rw [hg hb] at h1;exact h1)
 | fn us h1 h2 _ ih =>
   simp only [AV.low] at hb;rw [zt] at hb
   exact .fn us h1 h2 fun j x e=>ih j x e (hb x (List.mem_of_getElem? e))
 | bf us h1 h2 _ ih =>
   simp only [AV.low] at hb;rw [zt] at hb
   exact .bf us h1 h2 fun j x e=>ih j x e (hb x (List.mem_of_getElem? e))
 | os hi hn h1 h2 h3=>simp only [AV.low,decide_eq_true_eq] at hb;exact .os (hi.app hb) hn (by rw [hg hb] at h1;exact h1) (by rw [hg hb] at h2;exact h2) (by rw [hg hb] at h3;exact h3)
 | agg us h1 h2 h3 _ ih =>
   simp only [AV.low] at hb;rw [zt] at hb
   exact .agg us h1 h2 h3 fun j x e=>ih j x e (hb x (List.mem_of_getElem? e))
 | tup us h1 h2 _ ih =>
   simp only [AV.low] at hb;rw [zt] at hb
   exact .tup us h1 h2 fun j x e=>ih j x e (hb x (List.mem_of_getElem? e))
 | im us h0 h1 h2 h3 h4 _ ih =>
   simp only [AV.low] at hb;rw [zt] at hb
   exact .im us h0 h1 h2 h3 h4 fun j x e=>ih j x e (hb x (List.mem_of_getElem? e))
theorem SR.low (s : SR P E h β H w) {i : Nat} {x : Blk} (hx : H[i]? = some x) : x.low H.length = true:=by
 have k:=s.blk i x hx
 cases x with
 | dead=>rfl
 | free=>rfl
 | raw o=>rfl
 | lp st pend f tm ps x y n =>
   obtain ⟨b,dfr,tmps,h1,h2,h3,h4⟩:=k
   simp only [Blk.low];rw [zt];intro x hx
   obtain ⟨⟨q,y⟩,hy,rfl⟩:=List.mem_map.1 hx
   obtain ⟨v,_,h5⟩:=h4 q y hy;exact h5.low
 | cells cs =>
   obtain ⟨b,c,t,h1,h2,h3,h4,us,h5,h6⟩:=k
   simp only [Blk.low];rw [zt];intro x hx;obtain ⟨j,e⟩:=yX hx;exact (h6 j x e).low
 | grow t nl els =>
   rcases k with ⟨_,rfl,_⟩ | ⟨_,rfl,_⟩ | ⟨_,b,cap,c,_,_,_,_,_,_,_,_,_,us,_,h6⟩
   ·rfl
   ·rfl
   ·simp only [Blk.low];rw [jb];intro x hx;obtain ⟨j,e⟩:=yX hx;exact (h6 j x e).low
 | map es =>
   obtain ⟨r,ents,clock,_,_,_,_,us,h5⟩:=k
   simp only [Blk.low];rw [zt];intro x hx
   obtain ⟨⟨q,y⟩,hy,rfl⟩:=List.mem_map.1 hx
   obtain ⟨j,e⟩:=yX hy;exact (h5 j q y e).1.low
 | pm es =>
   obtain ⟨r,ents,clock,_,_,_,_,us,h5⟩:=k
   simp only [Blk.low];rw [zt];intro x hx
   obtain ⟨⟨q,y⟩,hy,rfl⟩:=List.mem_map.1 hx
   obtain ⟨j,e⟩:=yX hy;exact (h5 j q y e).1.low
theorem SR.cut {l : List Blk} (s : SR P E h β (H ++ l) w) (hb : ∀ x ∈ H,x.low H.length = true) : SR P E h β H w:=by
 have hg : ∀ {i : Nat},i < H.length -> (H ++ l)[i]? = H[i]?:=fun hi=>List.getElem?_append_left hi
 have hbo : ∀ {i b},blkOf β H i = some b -> blkOf β (H ++ l) i = some b:=fun {i b} e=>by rw [<- e];exact yK rfl (hg (yr e).1)
 refine ⟨s.env,s.imm,fun i x e=>?_,fun i j b h1 h2=>s.own i j b (hbo h1) (hbo h2),fun i b h1=>s.fresh i b (hbo h1),s.frm,fun i b h1=>s.fro i b (hbo h1)⟩
 have hi:=(List.getElem?_eq_some_iff.1 e).1
 have k:=s.blk i x (by rw [hg hi];exact e)
 have hbx:=hb x (List.mem_of_getElem? e)
 cases x with
 | dead=>trivial
 | free=>trivial
 | raw o=>exact k
 | lp st pend f tm ps x y n =>
   obtain ⟨b,dfr,tmps,h1,h2,h3,h4⟩:=k
   simp only [Blk.low] at hbx;rw [zt] at hbx
   exact ⟨b,dfr,tmps,h1,h2,h3,fun t r e=>let ⟨v,a,c⟩:=h4 t r e;⟨v,a,c.cut (hbx r (List.mem_map.2 ⟨_,e,rfl⟩))⟩⟩
 | cells cs =>
   obtain ⟨b,c,t,h1,h2,h3,h4,us,h5,h6⟩:=k
   simp only [Blk.low] at hbx;rw [zt] at hbx
   exact ⟨b,c,t,h1,h2,h3,h4,us,h5,fun j x e=>(h6 j x e).cut (hbx x (List.mem_of_getElem? e))⟩
 | grow t nl els =>
   rcases k with k | k | ⟨h0,b,cap,c,h1,h2,h3,h4,h5,h6,h7,h8,h9,us,h10,h11⟩
   ·exact .inl k
   ·exact .inr (.inl k)
   ·simp only [Blk.low] at hbx;rw [jb] at hbx
    exact .inr (.inr ⟨h0,b,cap,c,h1,h2,h3,h4,h5,h6,h7,h8,h9,us,h10,fun j x e=>(h11 j x e).cut (hbx x (List.mem_of_getElem? e))⟩)
 | map es =>
   obtain ⟨r,ents,clock,h1,h2,h3,h4,us,h5⟩:=k
   simp only [Blk.low] at hbx;rw [zt] at hbx
   exact ⟨r,ents,clock,h1,h2,h3,h4,us,fun j q x e=>⟨(h5 j q x e).1.cut (hbx x (List.mem_map.2 ⟨_,List.mem_of_getElem? e,rfl⟩)),(h5 j q x e).2⟩⟩
 | pm es =>
   obtain ⟨r,ents,clock,h1,h2,h3,h4,us,h5⟩:=k
   simp only [Blk.low] at hbx;rw [zt] at hbx
   exact ⟨r,ents,clock,h1,h2,h3,h4,us,fun j q x e=>⟨(h5 j q x e).1.cut (hbx x (List.mem_map.2 ⟨_,List.mem_of_getElem? e,rfl⟩)),(h5 j q x e).2⟩⟩
theorem Ext.cut {h0 : Nat -> Option Obj} {β0 : Nat -> Value} {H0 l : List Blk} (X : Ext h0 β0 H0 h β (H ++ l)) (hl : H0.length <= H.length) : Ext h0 β0 H0 h β H:=
 ⟨X.imm,hl,fun i x x' e e'=>X.to i x x' e (by rw [List.getElem?_append_left (List.getElem?_eq_some_iff.1 e').1];exact e')⟩
def resF (a : Act) : ResultVar -> Sem Value
 | .tmp t=>pure (a.tmps.getD t undef)
 | .cell p t=>do loadVar t (<- asAddr (a.tmps.getD p undef))
theorem za4 (s : SR P E h β H w) (F : Fits P h β H σ a) : ∀ {l : List ResultVar} {k : List AV -> Prop},resA P σ H l k ->
  ∃ vs rs,(l.mapM (resF a)).run P w = .ok vs w /\ RepL P h β H rs vs /\ k rs
 | [],k,hk=>⟨[],[],rfl,.nil,hk⟩
 | .tmp t :: l,k,hk=>by
   obtain ⟨r,h1,hk⟩:=zd hk
   obtain ⟨v,h2,h3⟩:=F t r h1
   obtain ⟨vs,rs,e1,e2,e3⟩:=za4 s F hk
   refine ⟨v :: vs,r :: rs,?_,.cons h3 e2,e3⟩
   have hx : (resF a (.tmp t)).run P w = .ok v w:=by simp [resF,h2]
   rw [List.mapM_cons,Sem.run_bind,hx,Result.andThen_ok,Sem.run_bind,e1];rfl
 | .cell p t :: l,k,hk=>by
   obtain ⟨r,h1,hk⟩:=zd hk
   obtain ⟨v,h2,h3⟩:=F p r h1
   obtain ⟨ad,u,r',rfl,h4,h5,h6⟩:=fy s h3 hk
   obtain ⟨vs,rs,e1,e2,e3⟩:=za4 s F h6
   refine ⟨u :: vs,r' :: rs,?_,.cons h5 e2,e3⟩
   have hx : (resF a (.cell p t)).run P w = .ok u w:=by simp [resF,h2,asAddr,h4]
   rw [List.mapM_cons,Sem.run_bind,hx,Result.andThen_ok,Sem.run_bind,e1];rfl
theorem pack_rep {rs : List AV} {vs : List Value} (hr : RepL P h β H rs vs) : Rep P h β H (pack rs) (if h : vs.toArray.size = 1 then vs.toArray[0] else .tuple vs.toArray):=by
 obtain ⟨h1,h2⟩:=hr
 have tup : vs.length ≠ 1 -> Rep P h β H (.tup rs) (.tuple vs.toArray):=fun _ =>
  .tup (fun j=>vs.getD j undef) (by simpa using h1) (fun j x e=>by obtain ⟨v,g1,_⟩:=h2 j x e;simp [g1]) (fun j x e=>by obtain ⟨v,g1,g2⟩:=h2 j x e;simp [g1,g2])
 match rs,vs,h1,h2,tup with
 | [r],[v],_,h2,_=>obtain ⟨u,g1,g2⟩:=h2 0 r rfl;simp at g1;subst g1;simpa [pack] using g2
 | [],[],_,_,tup=>simpa [pack] using tup (by simp)
 | r :: r' :: rs,v :: v' :: vs,_,_,tup=>simpa [pack] using tup (by simp)
theorem gV (s : SR P E h β H w) (F : Fits P h β H σ a) {fn : Func} {k : List AV -> Prop} (hk : resA P σ H fn.results.toList k) :
  ∃ v rs,(results fn a.tmps).run P w = .ok v w /\ Rep P h β H (pack rs) v /\ k rs:=by
 obtain ⟨vs,rs,e1,e2,e3⟩:=za4 s F hk
 refine ⟨_,rs,?_,pack_rep e2,e3⟩
 show (do let vs <- fn.results.mapM (resF a);pure (if h : vs.size = 1 then vs[0] else .tuple vs) : Sem Value).run P w = _
 rw [Sem.run_bind,Array.mapM_eq_mapM_toList,Sem.run_map,e1]
 rfl
end
end GA
end
section
namespace GA
open Go Go.RowKit
section
variable {P : Program} {N : Nat} {E : Env} {h : Nat -> Option Obj} {β : Nat -> Value} {H : List Blk} {w : World} {σ : St} {a : Act}
theorem atP_raw {i : Nat} {o o' : Obj} (hi : H[i]? = some (.raw o)) {p : AV} {cs : List AV} (e : atP H p = some cs) : atP (H.set i (.raw o')) p = some cs:=by
 have hlt:=(List.getElem?_eq_some_iff.1 hi).1
 have hg : ∀ (j : Nat) (x : Blk),H[j]? = some x -> (∀ o,x ≠ Blk.raw o) -> (H.set i (.raw o'))[j]? = some x:=by
  intro j x hj hx
  by_cases hij : i = j
  ·subst hij;rw [hi] at hj;cases hj;exact absurd rfl (hx _)
  ·rw [List.getElem?_set_ne hij];exact hj
 cases p with
 | pim cs=>exact e
 | ptr j o =>
   simp only [atP] at e ⊢
   split at e <;> cases e
   rename_i h1
   rw [hg j _ h1 (by simp)]
 | gp j n e' o =>
   simp only [atP] at e ⊢
   split at e
   ·rename_i h1;rw [hg j _ h1 (by simp)];exact e
   ·cases e
 | _=>cases e
theorem gb {i : Nat} {o o' : Obj} (hi : H[i]? = some (.raw o)) : ∀ {l : List ResultVar} {k : List AV -> Prop},resA P σ H l k -> resA P σ (H.set i (.raw o')) l k
 | [],_,hk=>hk
 | .tmp t :: l,k,hk=>by
   obtain ⟨r,h1,hk⟩:=zd hk
   simp only [resA,h1,zo];exact gb hi hk
 | .cell p t :: l,k,hk=>by
   obtain ⟨r,h1,hk⟩:=zd hk
   obtain ⟨ti,h2,hk⟩:=zd hk
   obtain ⟨cs,h3,hk⟩:=zd hk
   simp only [resA,h1,zo,y0,h2,atP_raw hi h3]
   split at hk
   ·rename_i h4;rw [if_pos h4];exact ⟨hk.1,gb hi hk.2⟩
   ·rename_i h4;rw [if_neg h4]
    obtain ⟨y,h5,hk⟩:=zd hk
    rw [h5,zo];exact gb hi hk
def hid (h : Nat -> Option Obj) (b : Nat) : Nat -> Option Obj:=fun x=>if x = b then none else h x
theorem v7 {b x : Nat} (hx : x ≠ b) : hid h b x = h x:=by simp [hid,hx]
theorem Rep.hid {b : Nat} {x : Option (List Deferred)} (hb : h b = some (.deferred x)) {r : AV} {v : Value} (y : Rep P h β H r v) : Rep P (GA.hid h b) β H r v:=by
 have hc : ∀ {q : Nat} {c t fz},h q = some (.cells c t fz) -> GA.hid h b q = some (.cells c t fz):=by
  intro q c t fz e
  rw [v7];exact e
  rintro rfl;rw [hb] at e;cases e
 induction y with
 | bool b=>exact .bool b
 | int k n=>exact .int k n
 | nilp=>exact .nilp
 | ptr hi h1=>exact .ptr hi h1
 | pim us h1 h2 h3 _ ih=>exact .pim us h1 (hc h2) h3 ih
 | slnil=>exact .slnil
 | slemp=>exact .slemp
 | sl us h1 h2 h3 h4 h5 h6 h7 h8 _ ih=>exact .sl us h1 h2 (hc h3) h4 h5 h6 h7 h8 ih
 | se=>exact .se
 | gr h1 hi h2=>exact .gr h1 hi h2
 | gp hi h2=>exact .gp hi h2
 | nilm=>exact .nilm
 | mp hi h1=>exact .mp hi h1
 | nilf=>exact .nilf
 | yld hi h1=>exact .yld hi h1
 | fn us h1 h2 _ ih=>exact .fn us h1 h2 ih
 | bf us h1 h2 _ ih=>exact .bf us h1 h2 ih
 | os hi hn h1 h2 h3=>exact .os hi hn h1 h2 h3
 | agg us h1 h2 h3 _ ih=>exact .agg us h1 h2 h3 ih
 | tup us h1 h2 _ ih=>exact .tup us h1 h2 ih
 | im us h0 h1 h2 h3 h4 _ ih=>exact .im us (by rw [v7];exact h0;rintro rfl;rw [hb] at h0;cases h0) h1 h2 h3 h4 ih
theorem zP.map {h' : Nat -> Option Obj} (f : ∀ r v,Rep P h β H r v -> Rep P h' β H r v) {cs : List AV} {c : Array Value} (k : zP P h β H cs c) : zP P h' β H cs c:=
 let ⟨us,a,b⟩:=k;⟨us,a,fun j x e=>f _ _ (b j x e)⟩
theorem jN.map {h' : Nat -> Option Obj} (f : ∀ r v,Rep P h β H r v -> Rep P h' β H r v) {heap heap' : Array Obj} {i : Nat} {x : Blk} (hh : x ≠ .dead -> x ≠ .free -> ∀ b,anchor (β i) = some b -> heap'[b]? = heap[b]?)
  (k : jN P h β H heap i x) : jN P h' β H heap' i x:=by
 cases x with
 | dead=>trivial
 | free=>trivial
 | lp st pend f' tm ps x y n =>
   obtain ⟨b,dfr,tmps,h1,h2,h3,h4⟩:=k
   exact ⟨b,dfr,tmps,h1,by rw [hh (by simp) (by simp) b (by rw [h1];rfl)];exact h2,h3,fun t r e=>let ⟨v,a,c⟩:=h4 t r e;⟨v,a,f _ _ c⟩⟩
 | cells cs =>
   obtain ⟨b,c,t,h1,h2,h3,h4,h5⟩:=k
   exact ⟨b,c,t,h1,by rw [hh (by simp) (by simp) b (by rw [h1];rfl)];exact h2,h3,h4,h5.map f⟩
 | grow t nl els =>
   rcases k with ⟨h1,h2,h3⟩ | ⟨h1,h2,a,h3⟩ | ⟨h1,b,cap,c,h2,h3,h4,h5,h6,h7,h8,h9,h10,h11⟩
   ·exact .inl ⟨h1,h2,h3⟩
   ·exact .inr (.inl ⟨h1,h2,a,h3⟩)
   ·exact .inr (.inr ⟨h1,b,cap,c,h2,h3,by rw [hh (by simp) (by simp) b (by rw [h2];simp [anchor];omega)];exact h4,h5,h6,h7,h8,h9,h10,h11.map f⟩)
 | map es =>
   obtain ⟨r,ents,clock,h1,h2,h3,h4,us,h5⟩:=k
   exact ⟨r,ents,clock,h1,by rw [hh (by simp) (by simp) r (by rw [h1];rfl)];exact h2,h3,h4,us,fun j q x e=>let ⟨a,b⟩:=h5 j q x e;⟨f _ _ a,b⟩⟩
 | pm es =>
   obtain ⟨r,ents,clock,h1,h2,h3,h4,us,h5⟩:=k
   exact ⟨r,ents,clock,h1,by rw [hh (by simp) (by simp) r (by rw [h1];rfl)];exact h2,h3,h4,us,fun j q x e=>let ⟨a,b⟩:=h5 j q x e;⟨f _ _ a,b⟩⟩
 | raw o =>
   obtain ⟨b,h1,h2⟩:=k
   exact ⟨b,h1,by rw [hh (by simp) (by simp) b (by rw [h1];rfl)];exact h2⟩
theorem SR.hid {b : Nat} {x : Option (List Deferred)} (hb : h b = some (.deferred x)) (o : Obj) (s : SR P E h β H w) : SR P E (GA.hid h b) β H (w.putObj b o):=by
 have hne : ∀ {q},h q = none -> q ≠ b:=fun e=>by rintro rfl;rw [hb] at e;cases e
 refine ⟨s.env,fun q p e=>?_,fun i y e=>?_,s.own,fun i q e=>?_,fun q p e=>?_,s.fro⟩
 ·unfold GA.hid at e;split at e
  ·cases e
  ·rename_i hq;rw [World.putObj_heap_other hq];exact s.imm q p e
 ·refine (s.blk i y e).map (fun r v=>Rep.hid hb) fun hd hd' q hq=>World.putObj_heap_other ?_
  refine hne (s.fresh i q ?_)
  unfold blkOf;rw [e];cases y <;> first|exact absurd rfl hd|exact absurd rfl hd'|exact hq
 ·rw [v7 (hne (s.fresh i q e))];exact s.fresh i q e
 ·obtain ⟨h1,h2⟩:=s.frm q p e
  exact ⟨by rw [World.putObj_heap_other (hne h2)];exact h1,by rw [v7 (hne h2)];exact h2⟩
theorem DfL.hid {b : Nat} {x : Option (List Deferred)} {en : Nat -> Option Obj} (hb : h b = some (.deferred x)) {D : List Nat} {ds : List Deferred} (d : DfL P h β H en D ds) (nd : ∀ b',({ target:=.collected b',args:=#[] } : Deferred) ∈ ds -> b' ≠ b) : DfL P (GA.hid h b) β H en D ds:=by
 induction d with
 | nil=>exact .nil
 | own r _ ih=>exact .own (Rep.hid hb r) (ih fun b' hb'=>nd b' (List.mem_cons_of_mem _ hb'))
 | lost h1 he nd' _ ih=>exact .lost (by rw [v7 (nd _ List.mem_cons_self)];exact h1) he nd' (ih fun b' hb'=>nd b' (List.mem_cons_of_mem _ hb'))
theorem DfOk.hid {b : Nat} {x : Option (List Deferred)} (hb : h b = some (.deferred x)) (he : E.en b = none) {D : List Nat} {ds : List Deferred} (d : DfOk P E h β H D ds) (nd : ∀ b',({ target:=.collected b',args:=#[] } : Deferred) ∈ ds -> b' ≠ b) : DfOk P E (GA.hid h b) β H D ds:=
 ⟨fun q o e=>by rw [v7 (by rintro rfl;rw [he] at e;cases e)];exact d.en q o e,d.l.hid hb nd⟩
theorem Ext.hid {b : Nat} {h0 : Nat -> Option Obj} {β0 : Nat -> Value} {H0 : List Blk} (X : Ext h0 β0 H0 h β H) (he : h0 b = none) : Ext h0 β0 H0 (GA.hid h b) β H:=
 ⟨fun q o e=>by rw [v7 (by rintro rfl;rw [he] at e;cases e)];exact X.imm q o e,X.len,X.to⟩
theorem Fits.hid {b : Nat} {x : Option (List Deferred)} (hb : h b = some (.deferred x)) (F : Fits P h β H σ a) : Fits P (GA.hid h b) β H σ a:=fun t r e=>let ⟨v,a,c⟩:=F t r e;⟨v,a,Rep.hid hb c⟩
theorem leaves {fn : Func} {h0 : Nat -> Option Obj} {β0 : Nat -> Value} {H0 H1 : List Blk} {k : AV -> List Blk -> Prop} (hen : ∀ b,E.en b = none -> h0 b = none) (hlen : H0.length <= H1.length) (hlow : ∀ x ∈ H1,x.low H1.length = true) :
  ∀ (ds : List Deferred) (D : List Nat) (h : Nat -> Option Obj) (β : Nat -> Value) (l : List Blk) (w : World),Ext h0 β0 H0 h β (H1 ++ l) -> SR P E h β (H1 ++ l) w -> Fits P h β (H1 ++ l) σ a -> DfOk P E h β (H1 ++ l) D ds -> D.Nodup ->
   (∀ i ∈ D,H1.length <= i /\ (H1 ++ l)[i]? = some (.raw (.deferred (some [])))) -> resA P σ (H1 ++ l) fn.results.toList (fun rs=>(pack rs).low H1.length = true /\ k (pack rs) H1) ->
   LeavesInM (FW none) 0 P fn a.tmps (Ends P E h0 β0 H0 k) ds .returning w
 | [],D,h,β,l,w,X,s,F,df,_,_,hr=>by
   obtain ⟨v,rs,e1,e2,e3,e4⟩:=gV s F hr
   exact ⟨v,e1,pack rs,H1,h,β,v,rfl,e4,X.cut hlen,s.cut hlow,e2.cut e3⟩
 | d :: ds,D,h,β,l,w,X,s,F,⟨hen2,df⟩,hnd,hD,hr=>by
   cases df with
   | @lost b _ _ hb he nd t =>
     have h4:=s.imm _ _ hb
     have htake:=run_takeDeferred (P:=P) h4
     refine ⟨by simp,.inl ⟨b,_,rfl,htake,?_⟩⟩
     exact leaves hen hlen hlow ds D _ β l _ (X.hid (hen _ he)) (s.hid hb _) (F.hid hb) (DfOk.hid hb he ⟨hen2,t⟩ nd) hnd hD hr
   | @own i b D _ h2 t =>
     obtain ⟨hi1,hi2⟩:=hD i (by simp)
     cases h2 with
     | yld hlt hb =>
       have hb':=hb _ hi2 rfl
       obtain ⟨b',h3,h4⟩:=s.blk i _ hi2
       rw [hb'] at h3;cases h3
       have htake:=run_takeDeferred (P:=P) h4
       refine ⟨by simp,.inl ⟨b,_,rfl,htake,?_⟩⟩
       have hset : (H1 ++ l).set i (.raw (.deferred none)) = H1 ++ l.set (i - H1.length) (.raw (.deferred none)):=by rw [List.set_append_right _ _ hi1]
       have hbo : blkOf β (H1 ++ l) i = some b:=by simp only [blkOf,hi2,hb'];rfl
       obtain ⟨s',X'⟩:=s.modify (β':=β) (w':=w.putObj b (.deferred none)) (x':=.raw (.deferred none)) hi2 (fun _ _=>rfl) (.inr ⟨_,rfl,rfl⟩) s.env
        (fun q _ hn=>World.putObj_heap_other (fun e=>hn (by rw [hbo,e]))) (fun b0 e=>.inl (by rw [hbo];rw [hb'] at e;exact e))
        (fun _=>⟨b,hb',World.putObj_heap_same (Array.getElem?_eq_some_iff.1 h4).1⟩)
       rw [hset] at s' X'
       refine leaves hen hlen hlow ds D h β _ _ (X.trans X') s' (F.ext X') (DfOk.ext ⟨hen2,t⟩ X') (List.nodup_cons.1 hnd).2 (fun i' hi'=>⟨(hD i' (by simp [hi'])).1,?_⟩) ?_
       ·have hne : i ≠ i':=fun e=>(List.nodup_cons.1 hnd).1 (e ▸ hi')
        rw [<- hset,List.getElem?_set_ne hne]
        exact (hD i' (by simp [hi'])).2
       ·rw [<- hset];exact gb hi2 hr
theorem Ends.unen {h0 : Nat -> Option Obj} {β0 : Nat -> Value} {H0 : List Blk} {k : AV -> List Blk -> Prop} {x : Nat -> Option Obj} {e : Ending} {w : World} (y : Ends P ⟨E.b,E.fr,x⟩ h0 β0 H0 k e w) : Ends P E h0 β0 H0 k e w:=
 let ⟨r,H',h',β',v,a,b,c,d,f⟩:=y;⟨r,H',h',β',v,a,b,c,d.unen,f⟩
def argsSt (rs : List AV) : St:=fun t=>rs[t]?
theorem yo.of_body {f : FuncId} {fn : Func} {c : Code} {rs : List AV} {k : AV -> List Blk -> Prop} (hf : P.funcs[f]? = some fn) (hb : fn.body = some c) (hn : (fn.name == "runtime.NumGoroutine") = false) (hl : rs.length <= fn.ntmps)
  (x : AWp P fn.ntmps none c (FnPost P fn.results.toList H k) [] (argsSt rs) H) : yo P f rs H k:=by
 refine ⟨⟨fn,hf,hn,by rw [hb];rfl⟩,fun E h β w vs s hr=>?_⟩
 refine (show CallsIn (FW none) 0 P f vs.toArray w (Ends P ⟨E.b,E.fr,h⟩ h β H k) from ?_).mono fun _ _=>Ends.unen
 refine callsIn_of_wp_marks hf hb trivial ?_ rfl
 have hsz : (vs.toArray ++ Array.replicate (fn.ntmps - vs.toArray.size) undef).size = fn.ntmps:=by simp [hr.1];omega
 refine wpIn_mono (x ⟨E.b,E.fr,h⟩ h β _ w ⟨s.en h,fun t r e=>?_,hsz,⟨fun _ _ e=>e,.nil⟩⟩) ?_
 ·obtain ⟨v,h1,h2⟩:=hr.2 t r e
  refine ⟨v,?_,h2⟩
  rw [Array.getElem?_append_left (by simpa using (List.getElem?_eq_some_iff.1 h1).1)];simpa using h1
 ·rintro e a' w' ⟨D',σ',H',h',β',⟨he,H1,l,rfl,hlen,hcl,hnd,hD,hres⟩,X,s'⟩
  have hlow : ∀ x ∈ H1,x.low H1.length = true:=by
   intro x hx
   rcases hcl x hx with h1 | h1
   ·obtain ⟨j,hj⟩:=yX h1
    have:=s.low hj
    exact low_mono hlen this
   ·exact h1
  have:=leaves (fn:=fn) (k:=k) (fun _ e=>e) hlen hlow a'.defers D' h' β' l w' X s'.sr s'.fits s'.df hnd hD hres
  rcases he with rfl | rfl <;> exact this
end
end GA
end
section
namespace GA
open Go Go.RowKit
inductive TK where
 | int (q : IntKind)
 | bool
 | sl (e w by' : Nat) (z : AV)
 | ar (n : Nat) (ag : Bool) (w : Nat)
 | st (fs : List (Nat × Bool × Nat))
 | mp (z : AV)
 | mp2 (z : AV)
 | oth
structure TE where
 ag : Bool
 n : Nat
 z : Option AV
 k : TK
 q : Option Nat:=none
abbrev Tab:=List (Option TE)
def lget {α : Type} : List α -> Nat -> Option α
 | [],_=>none
 | x :: _,0=>some x
 | _ :: l,n + 1=>lget l n
def tget (T : Tab) (t : Nat) : Option TE:=match lget T t with | some (some e)=>some e | _=>none
def TeOk (P : Program) (t : Nat) (e : TE) : Prop:=
 tyK P t = some (e.ag,e.n) /\ sz P t = e.n /\ (∀ z,e.z = some z -> z6 P t = some z) /\
  (match e.k with
  | .int q=>P.underlying t = some (.int q)
  | .bool=>qV P t
  | .sl el w b z=>slE P t = some (el,w,b) /\ slK P t = some w /\ gY P t /\ z6 P el = some z
  | .ar n ag w=>arK P t = some (n,ag,w) /\ allK P t = true /\ ∀ i,kP P t i = some (i * w,w)
  | .st fs=>(∀ i x,lget fs i = some x -> fldK P t i = some x /\ kP P t i = some (x.1,x.2.2)) /\ allK P t = true
  | .mp z=>mapT P t = some z
  | .mp2 z=>zbV P t = some z
  | .oth=>True) /\ ∀ n,e.q = some n -> wV P t = some n
def kI (P : Program) : Nat -> Tab -> Prop
 | _,[]=>True
 | i,none :: l=>kI P (i + 1) l
 | i,some e :: l=>TeOk P i e /\ kI P (i + 1) l
def zA (P : Program) (T : Tab) : Prop:=kI P 0 T
theorem kI.get {P : Program} : ∀ {T : Tab} {i t : Nat} {e : TE},kI P i T -> tget T t = some e -> TeOk P (i + t) e
 | [],_,_,_,_,h=>by simp [tget,lget] at h
 | x :: l,i,0,e,ok,h=>by
   cases x with
   | none=>simp [tget,lget] at h
   | some x=>simp [tget,lget] at h;subst h;exact ok.1
 | x :: l,i,t + 1,e,ok,h=>by
   have h' : tget l t = some e:=by simpa [tget,lget] using h
   have:=kI.get (i:=i + 1) (by cases x with | none=>exact ok | some x=>exact ok.2) h'
   rwa [show i + 1 + t = i + (t + 1) by omega] at this
theorem zA.get {P : Program} {T : Tab} (ok : zA P T) {t : Nat} {e : TE} (h : tget T t = some e) : TeOk P t e:=by
 have:=kI.get ok h;rwa [Nat.zero_add] at this
theorem zr {α : Type} : ∀ (l : List α) (n : Nat),lget l n = l[n]?
 | [],_=>rfl
 | _ :: _,0=>rfl
 | _ :: l,n + 1=>by simp only [lget,List.getElem?_cons_succ];exact zr l n
structure XBr (c : Bool) (A B : Prop) : Prop where
 t : c = true -> A
 f : c = false -> B
structure zj (p A : Prop) : Prop where
 l : p
 r : A
structure XInt (q : IntKind) (x : Int) (k : AV -> Prop) : Prop where
 o : k (.int q (q.wrap x))
structure XIx (els : List AV) (n : Int) (w : Nat) (k : AV -> Prop) : Prop where
 lo : 0 <= n
 hi : n < els.length
 wd : (nth els n).cells.length = w
 o : k (.pim (nth els n).cells)
def xAddP (p : AV) (off : Nat) (k : AV -> Prop) : Prop:=
 match p with
 | .pim cs=>k (.pim (cs.drop off))
 | .ptr i o=>k (.ptr i (o + off))
 | .gp i n e o=>k (.gp i n e (o + off))
 | _=>False
structure XArr (p : AV) (n : Int) (m w : Nat) (k : AV -> Prop) : Prop where
 lo : 0 <= n
 hi : n < m
 o : xAddP p (n.toNat * w) k
structure XGet (els : List AV) (n e : Nat) (k : List AV -> Prop) : Prop where
 len : n = els.length
 lt : e < n
 o : k (els.getD e default).cells
structure XPut (els : List AV) (n e : Nat) (v : AV) (k : List AV -> Prop) : Prop where
 len : n = els.length
 lt : e < n
 o : k (els.set e v)
structure vw (els : List AV) (n e o : Nat) (w : Nat) (cs : List AV) (k : List AV -> Prop) : Prop where
 len : n = els.length
 lt : e < n
 le : o + cs.length <= w
 one : (els.getD e default).one = false
 o : k (els.set e (.agg (splice (els.getD e default).cells o cs)))
structure XEqA (cs ds : List AV) (n : Nat) (k : Bool -> Prop) : Prop where
 o : ∃ qs bs : List Int,cs = qs.map (.int .i64) /\ ds = bs.map (.int .i64) /\ qs.length = bs.length /\ n = qs.length /\ k (qs == bs)
structure XEqB (cs ds : List AV) (n : Nat) (k : Bool -> Prop) : Prop where
 o : ∃ qs bs : List Bool,cs = qs.map .bool /\ ds = bs.map .bool /\ qs.length = bs.length /\ n = qs.length + 1048576 /\ k (qs == bs)
structure XGetM (H : List Blk) (z : AV) (ok : Bool) (n : Int) (es : List (Int × AV)) (k : AV -> Prop) : Prop where
 o : zdr H z ok n es k
theorem XGetM.mk' {H : List Blk} {z : AV} {ok : Bool} {n : Int} {es : List (Int × AV)} {k : AV -> Prop} {v : Option AV} (hv : mget n es = v) (h : k (mres ok z v)) : XGetM H z ok n es k:=⟨.inl (by rw [hv];exact h)⟩
structure za (P : Program) (f : FuncId) (rs : List AV) (H : List Blk) (k : AV -> List Blk -> Prop) : Prop where
 o : yo P f rs H k
structure wH (P : Program) (i : Nat) (rs : List AV) (H : List Blk) (k : AV -> List Blk -> Prop) : Prop where
 o : vc P i rs H k
structure Walk (P : Program) (N : Nat) (ρ : Option Nat) (c : Code) (Q : Post) (D : List Nat) (σ : St) (H : List Blk) : Prop where
 o : AWp P N ρ c Q D σ H
def xtk : Nat -> List AV -> (List AV -> Prop) -> Prop
 | 0,_,k=>k []
 | n + 1,c :: cs,k=>xtk n cs fun l=>k (c :: l)
 | _ + 1,[],_=>False
def xdrop : Nat -> List AV -> (List AV -> Prop) -> Prop
 | 0,cs,k=>k cs
 | n + 1,_ :: cs,k=>xdrop n cs k
 | _ + 1,[],_=>False
def xn : Nat -> List AV -> Prop -> Prop
 | 0,[],A=>A
 | n + 1,_ :: cs,A=>xn n cs A
 | _,_,_=>False
def xspl : List AV -> Nat -> List AV -> (List AV -> Prop) -> Prop
 | c,0,[],k=>k c
 | _ :: c,0,v :: vs,k=>xspl c 0 vs fun l=>k (v :: l)
 | x :: c,o + 1,vs,k=>xspl c o vs fun l=>k (x :: l)
 | _,_,_,_=>False
def xone (v : AV) (k : List AV -> Prop) : Prop:=
 match v with
 | .tup _=>False
 | .agg cs=>k cs
 | v=>k [v]
def hset : List Blk -> Nat -> Blk -> (List Blk -> Prop) -> Prop
 | _ :: H,0,b,k=>k (b :: H)
 | x :: H,n + 1,b,k=>hset H n b fun l=>k (x :: l)
 | [],_,_,_=>False
def hpush : List Blk -> Nat -> Blk -> (Nat -> List Blk -> Prop) -> Prop
 | [],j,b,k=>k j [b]
 | x :: H,j,b,k=>hpush H (j + 1) b fun i l=>k i (x :: l)
theorem zap : ∀ {n : Nat} {cs : List AV} {k : List AV -> Prop},xtk n cs k -> n <= cs.length /\ k (cs.take n)
 | 0,_,_,h=>⟨Nat.zero_le _,h⟩
 | n + 1,c :: cs,k,h=>by obtain ⟨h1,h2⟩:=zap (n:=n) (cs:=cs) (k:=fun l=>k (c :: l)) h;exact ⟨by simpa using h1,by simpa using h2⟩
 | n + 1,[],_,h=>h.elim
theorem kN : ∀ {n : Nat} {cs : List AV} {k : List AV -> Prop},xdrop n cs k -> n <= cs.length /\ k (cs.drop n)
 | 0,_,_,h=>⟨Nat.zero_le _,h⟩
 | n + 1,c :: cs,k,h=>by obtain ⟨h1,h2⟩:=kN (n:=n) (cs:=cs) (k:=k) h;exact ⟨by simpa using h1,by simpa using h2⟩
 | n + 1,[],_,h=>h.elim
theorem zde : ∀ {n : Nat} {cs : List AV} {A : Prop},xn n cs A -> cs.length = n /\ A
 | 0,[],_,h=>⟨rfl,h⟩
 | n + 1,c :: cs,A,h=>by obtain ⟨h1,h2⟩:=zde (n:=n) (cs:=cs) (A:=A) h;exact ⟨by simp [h1],h2⟩
 | 0,_ :: _,_,h=>h.elim
 | n + 1,[],_,h=>h.elim
theorem v8 (c : List AV) : splice c 0 [] = c:=by simp [splice]
theorem gZ (x : AV) (c : List AV) (v : AV) (vs : List AV) : splice (x :: c) 0 (v :: vs) = v :: splice c 0 vs:=by simp [splice]
theorem gU (x : AV) (c : List AV) (o : Nat) (vs : List AV) : splice (x :: c) (o + 1) vs = x :: splice c o vs:=by
 simp only [splice,List.take_succ_cons,List.cons_append]
 rw [show o + 1 + vs.length = (o + vs.length) + 1 by omega,List.drop_succ_cons]
theorem vO : ∀ {c : List AV} {o : Nat} {vs : List AV} {k : List AV -> Prop},xspl c o vs k -> o + vs.length <= c.length /\ k (splice c o vs)
 | c,0,[],k,h=>by
   have h' : k c:=by cases c <;> exact h
   exact ⟨Nat.zero_le _,by rw [v8];exact h'⟩
 | x :: c,0,v :: vs,k,h=>by
   obtain ⟨h1,h2⟩:=vO (c:=c) (o:=0) (vs:=vs) (k:=fun l=>k (v :: l)) h
   exact ⟨by simp at h1 ⊢;omega,by rw [gZ];exact h2⟩
 | x :: c,o + 1,vs,k,h=>by
   have h' : xspl c o vs fun l=>k (x :: l):=by cases vs <;> exact h
   obtain ⟨h1,h2⟩:=vO (c:=c) (o:=o) (vs:=vs) (k:=fun l=>k (x :: l)) h'
   exact ⟨by simp;omega,by rw [gU];exact h2⟩
 | [],0,_ :: _,_,h=>h.elim
 | [],_ + 1,[],_,h=>h.elim
 | [],_ + 1,_ :: _,_,h=>h.elim
theorem vF {v : AV} {k : List AV -> Prop} (h : xone v k) : v.isTup = false /\ k v.cells:=by
 cases v <;> first|exact h.elim|exact ⟨rfl,h⟩
theorem zX : ∀ {H : List Blk} {i : Nat} {b : Blk} {k : List Blk -> Prop},hset H i b k -> i < H.length /\ k (H.set i b)
 | _ :: H,0,b,k,h=>⟨by simp,h⟩
 | x :: H,n + 1,b,k,h=>by obtain ⟨h1,h2⟩:=zX (H:=H) (i:=n) (b:=b) (k:=fun l=>k (x :: l)) h;exact ⟨by simpa using h1,by simpa using h2⟩
 | [],0,_,_,h=>h.elim
 | [],_ + 1,_,_,h=>h.elim
theorem yH : ∀ {H : List Blk} {j : Nat} {b : Blk} {k : Nat -> List Blk -> Prop},hpush H j b k -> k (j + H.length) (H ++ [b])
 | [],j,b,k,h=>h
 | x :: H,j,b,k,h=>by
   have:=yH (H:=H) (j:=j + 1) (b:=b) (k:=fun i l=>k i (x :: l)) h
   simpa [Nat.add_assoc,Nat.add_comm 1] using this
def ikN : IntKind -> Nat
 | .i8=>0 | .i16=>1 | .i32=>2 | .i64=>3 | .u8=>4 | .u16=>5 | .u32=>6 | .u64=>7
theorem ikN_inj {q q' : IntKind} (h : ikN q = ikN q') : q = q':=by cases q <;> cases q' <;> first | rfl | cases h
def isK (q q' : IntKind) (A : Prop) : Prop:=match Nat.beq (ikN q) (ikN q') with | true=>A | false=>False
theorem isK_spec {q q' : IntKind} {A : Prop} (h : isK q q' A) : q = q' /\ A:=by
 unfold isK at h;split at h
 ·rename_i e;exact ⟨ikN_inj (Nat.eq_of_beq_eq_true e),h⟩
 ·exact h.elim
def xBin (T : Tab) (t : TypeId) (op : BinOp) (x y : AV) (k : AV -> Prop) : Prop:=
 match op,x,y with
 | .add,.int q a,.int q' b=>isK q q' (XInt q (a + b) k)
 | .sub,.int q a,.int q' b=>isK q q' (XInt q (a - b) k)
 | .mul,.int q a,.int q' b=>isK q q' (XInt q (a * b) k)
 | .quo,.int q a,.int q' b=>isK q q' (zj (b ≠ 0) (XInt q (a.tdiv b) k))
 | .rem,.int q a,.int q' b=>isK q q' (zj (b ≠ 0) (k (.int q (a.tmod b))))
 | .and,.int q a,.int q' b=>isK q q' (k (.int q (iand q a b)))
 | .or,.int q a,.int q' b=>isK q q' (k (.int q (ior q a b)))
 | .xor,.int q a,.int q' b=>isK q q' (k (.int q (ixor q a b)))
 | .andNot,.int q a,.int q' b=>isK q q' (k (.int q (iandn q a b)))
 | .shl,.int q a,.int _ b=>zj (0 <= b) (XInt q (a * 2 ^ (min b.toNat q.bits)) k)
 | .shr,.int q a,.int _ b=>zj (0 <= b) (k (.int q (a.fdiv (2 ^ (min b.toNat q.bits)))))
 | .eql,.int q a,.int q' b=>isK q q' (k (.bool (a == b)))
 | .neq,.int q a,.int q' b=>isK q q' (k (.bool (a != b)))
 | .lss,.int q a,.int q' b=>isK q q' (k (.bool (decide (a < b))))
 | .leq,.int q a,.int q' b=>isK q q' (k (.bool (decide (a <= b))))
 | .gtr,.int q a,.int q' b=>isK q q' (k (.bool (decide (b < a))))
 | .geq,.int q a,.int q' b=>isK q q' (k (.bool (decide (b <= a))))
 | .eql,.bool a,.bool b=>bnd (tget T t) fun e=>match e.k with | .bool=>k (.bool (a == b)) | _=>False
 | .neq,.bool a,.bool b=>bnd (tget T t) fun e=>match e.k with | .bool=>k (.bool (a != b)) | _=>False
 | .eql,.sl nl _,.sl true []=>bnd (tget T t) fun e=>match e.k with | .sl _ _ _ _=>k (.bool nl) | _=>False
 | .neq,.sl nl _,.sl true []=>bnd (tget T t) fun e=>match e.k with | .sl _ _ _ _=>k (.bool (!nl)) | _=>False
 | .eql,.agg cs,.agg ds=>bnd (tget T t) fun e=>bnd e.q fun n=>match Nat.blt n 1048576 with | true=>XEqA cs ds n fun b=>k (.bool b) | false=>XEqB cs ds n fun b=>k (.bool b)
 | .neq,.agg cs,.agg ds=>bnd (tget T t) fun e=>bnd e.q fun n=>match Nat.blt n 1048576 with | true=>XEqA cs ds n fun b=>k (.bool !b) | false=>XEqB cs ds n fun b=>k (.bool !b)
 | _,_,_=>False
def xTake (e : TE) (cs : List AV) (k : AV -> Prop) : Prop:=
 match e.ag with
 | true=>xtk e.n cs fun l=>k (.agg l)
 | false=>match cs with | c :: _=>k c | []=>False
def xLoad (T : Tab) (t : TypeId) (H : List Blk) (p : AV) (k : AV -> Prop) : Prop:=
 bnd (tget T t) fun e=>match p with
 | .pim cs=>xTake e cs k
 | .ptr i o=>match lget H i with | some (.cells cs)=>xdrop o cs fun cs=>xTake e cs k | _=>False
 | .gp i n el o=>match lget H i with | some (.grow _ _ els)=>XGet els n el fun cs=>xdrop o cs fun cs=>xTake e cs k | _=>False
 | _=>False
def xStore (T : Tab) (t : TypeId) (H : List Blk) (p v : AV) (k : AV -> List Blk -> Prop) : Prop:=
 bnd (tget T t) fun e=>xone v fun cs=>xn e.n cs (match p with
 | .ptr i o=>match lget H i with | some (.cells c)=>xspl c o cs fun c'=>hset H i (.cells c') fun H'=>k (.tup []) H' | _=>False
 | .gp i n el o=>match lget H i with
   | some (.grow te nl els)=>bnd (tget T te) fun e' =>
     match o,Nat.beq e.n e'.n with
     | 0,true=>XPut els n el v fun els'=>hset H i (.grow te nl els') fun H'=>k (.tup []) H'
     | o,_=>vw els n el o e'.n cs fun els'=>hset H i (.grow te nl els') fun H'=>k (.tup []) H'
   | _=>False
 | _=>False)
def hasFree : List Blk -> Bool
 | []=>false
 | .free :: _=>true
 | _ :: H=>hasFree H
structure yy (H : List Blk) (b : Blk) (k : Nat -> List Blk -> Prop) : Prop where
 o : ∃ i,lget H i = some .free /\ hset H i b fun H'=>k i H'
def xNew (H : List Blk) (b : Blk) (k : Nat -> List Blk -> Prop) : Prop:=match hasFree H with | true=>yy H b k | false=>hpush H 0 b k
def xBoxO (v : AV) (H : List Blk) (k : AV -> List Blk -> Prop) : Prop:=xone v fun cs=>xNew H (.cells cs) fun i H'=>k (.ptr i 0) H'
structure zbB (n : Nat) (cs : List AV) (k : List AV -> Prop) : Prop where
 le : n <= cs.length
 o : k (cs.drop n)
def xFldP (p : AV) (off : Nat) (k : AV -> Prop) : Prop:=
 match p with
 | .pim cs=>match Nat.ble 64 off with | true=>zbB off cs fun cs=>k (.pim cs) | false=>xdrop off cs fun cs=>k (.pim cs)
 | .ptr i o=>k (.ptr i (o + off))
 | .gp i n e o=>k (.gp i n e (o + off))
 | _=>False
def xPart (cs : List AV) (ag : Bool) (off n : Nat) (k : AV -> Prop) : Prop:=
 match ag with
 | true=>xdrop off cs fun cs=>xtk n cs fun l=>k (.agg l)
 | false=>xdrop off cs fun cs=>match cs with | c :: _=>k c | []=>False
def fields : TK -> List (Nat × Bool × Nat)
 | .st fs=>fs
 | _=>[]
def zaB (T : Tab) (s : TypeId) (p : AV) (f : Nat) (k : AV -> Prop) : Prop:=
 bnd (tget T s) fun e=>bnd (lget (fields e.k) f) fun x=>match x.2.2 with | 0=>False | _ + 1=>xFldP p x.1 k
def xField (T : Tab) (s : TypeId) (x : AV) (f : Nat) (k : AV -> Prop) : Prop:=
 match x with
 | .agg cs=>bnd (tget T s) fun e=>bnd (lget (fields e.k) f) fun y=>xPart cs y.2.1 y.1 y.2.2 k
 | _=>False
def xIndex (T : Tab) (t : TypeId) (x i : AV) (k : AV -> Prop) : Prop:=
 match x,i with
 | .agg cs,.int _ n=>bnd (tget T t) fun e=>match e.k with
   | .ar m ag w=>zj (0 <= n /\ n < m) (xPart cs ag (n.toNat * w) w k)
   | _=>False
 | _,_=>False
def vZ (T : Tab) (t : TypeId) (H : List Blk) (x i : AV) (k : AV -> Prop) : Prop:=
 match i with
 | .int _ n=>bnd (tget T t) fun e=>match x,e.k with
   | .sl _ els,.sl _ w _ _=>XIx els n w k
   | .gr b m,.sl _ w _ _=>match lget H b with
     | some (.grow te _ els)=>bnd (tget T te) fun e'=>zj (els.length = m /\ w = e'.n /\ 0 <= n /\ n < m) (k (.gp b m n.toNat 0))
     | _=>False
   | .os b m o q,.sl _ w _ _=>match lget H b with
     | some (.grow te _ els)=>bnd (tget T te) fun e'=>zj (els.length = m /\ w = e'.n /\ 0 <= n /\ n < q) (k (.gp b m (o + n.toNat) 0))
     | some (.cells _)=>zj (0 <= n /\ n < q) (k (.ptr b (o + n.toNat * w)))
     | _=>False
   | .pim cs,.ar m _ w=>XArr (.pim cs) n m w k
   | .ptr b o,.ar m _ w=>XArr (.ptr b o) n m w k
   | .gp b m' e' o,.ar m _ w=>XArr (.gp b m' e' o) n m w k
   | _,_=>False
 | _=>False
def isAgK : TK -> Bool
 | .st _ | .ar _ _ _=>true
 | _=>false
def place (tk : TK) (i : Nat) : Option (Nat × Nat):=
 match tk with
 | .st fs=>match lget fs i with | some x=>some (x.1,x.2.2) | none=>none
 | .ar _ _ w=>some (i * w,w)
 | _=>none
def xFill (tk : TK) : List AV -> List (Nat × AV) -> (List AV -> Prop) -> Prop
 | cells,[],k=>k cells
 | cells,(i,v) :: rest,k=>bnd (place tk i) fun x=>xone v fun cs=>xn x.2 cs (xspl cells x.1 cs fun c=>xFill tk c rest k)
def xBuild (T : Tab) (t : TypeId) (ps : List (Nat × AV)) (k : AV -> Prop) : Prop:=
 bnd (tget T t) fun e=>match e.z,isAgK e.k with | some (.agg zc),true=>xFill e.k zc ps fun cs=>k (.agg cs) | _,_=>False
def fA (T : Tab) (own : Bool) (t : TypeId) (len : Nat) (ps : List (Nat × AV)) (H : List Blk) (k : AV -> List Blk -> Prop) : Prop:=
 bnd (tget T t) fun e=>match e.k with
 | .sl el w _ _=>bnd (dense 0 ps) fun els=>zj (els.length = len /\ len * w <= 16777216 /\ wide w els = true)
   (match own with
   | true=>hpush H 0 (.grow el false els) fun i H'=>k (.gr i len) H'
   | false=>match len with | 0=>k .se H | _ + 1=>k (.sl false els) H)
 | _=>False
def Room (n : Int) (b : Nat) : Prop:=n * b <= 140737488355328 /\ n <= 4611686018427387904
def qa (T : Tab) (t : TypeId) (l c : AV) (H : List Blk) (k : AV -> List Blk -> Prop) : Prop:=
 match l,c with
 | .int _ l,.int _ c=>bnd (tget T t) fun e=>match e.k with
   | .sl el _ b z=>zj (0 <= l /\ l <= c /\ Room c b) (xNew H (.grow el false (List.replicate l.toNat z)) fun i H'=>k (.gr i l.toNat) H')
   | _=>False
 | _,_=>False
def xEls (H : List Blk) (x : AV) (k : List AV -> Prop) : Prop:=
 match x with
 | .sl _ els=>k els
 | .se=>k []
 | .gr i n=>match lget H i with | some (.grow _ _ els)=>zj (els.length = n) (k els) | _=>False
 | .os i m o n=>match lget H i with
   | some (.grow _ _ els)=>zj (els.length = m /\ o + n <= m) (k ((els.drop o).take n))
   | some (.cells cs)=>zj (o + n <= cs.length) (k ((cs.drop o).take n))
   | _=>False
 | _=>False
structure zcD (els : List AV) (o : Nat) (new : List AV) (k : List AV -> Prop) : Prop where
 o : k (splice els o new)
def fP (H : List Blk) (d : AV) (el : TypeId) (new : List AV) (k : Nat -> List Blk -> Prop) : Prop:=
 match d with
 | .gr i n=>match lget H i with
   | some (.grow te nl els)=>zj (te = el /\ els.length = n) (zcD els 0 (new.take n) fun els'=>hset H i (.grow te nl els') fun H'=>k n H')
   | _=>False
 | .os i m o n=>match lget H i with
   | some (.grow te nl els)=>zj (te = el /\ els.length = m /\ o + n <= m) (zcD els o (new.take n) fun els'=>hset H i (.grow te nl els') fun H'=>k n H')
   | _=>False
 | _=>False
def xCopy (T : Tab) (t : TypeId) (d x : AV) (H : List Blk) (k : AV -> List Blk -> Prop) : Prop:=
 bnd (tget T t) fun e=>match e.k with
 | .sl el w _ _=>xEls H x fun new=>zj (wide w new = true) (fP H d el new fun n H'=>k (.int .i64 (min new.length n : Nat)) H')
 | _=>False
def xClear (T : Tab) (t : TypeId) (x : AV) (H : List Blk) (k : AV -> List Blk -> Prop) : Prop:=
 bnd (tget T t) fun e=>match e.k with
 | .sl el _ _ z=>bnd (lenD x) fun n=>fP H x el (List.replicate n z) fun _ H'=>k (.tup []) H'
 | _=>False
def za2 (T : Tab) (t : TypeId) (s x : AV) (H : List Blk) (k : AV -> List Blk -> Prop) : Prop:=
 bnd (tget T t) fun e=>match e.k with
 | .sl el w b _=>xEls H x fun new=>zj (wide w new = true)
   (match s with
   | .sl true _=>zj (Room new.length b) (hpush H 0 (.grow el new.isEmpty new) fun i H'=>k (.gr i new.length) H')
   | .se=>zj (Room new.length b) (hpush H 0 (.grow el false new) fun i H'=>k (.gr i new.length) H')
   | .gr i n=>match lget H i with
     | some (.grow te nl els)=>zj (te = el /\ els.length = n /\ Room (n + new.length : Nat) b) (hset H i (.grow te (nl && new.isEmpty) (els ++ new)) fun H'=>k (.gr i (n + new.length)) H')
     | _=>False
   | _=>False)
 | _=>False
structure XOsApp (c A B : Prop) : Prop where
 o : (c /\ A) \/ B
def fN (T : Tab) (t : TypeId) (s x : AV) (H : List Blk) (k : AV -> List Blk -> Prop) : Prop:=
 match s with
 | .os i m o n=>match x with
   | .sl _ new=>match lget H i with
     | some (.grow te nl els)=>zj (o = 0 /\ els.length = m /\ 0 < m) (XOsApp (n = m) (za2 T t (.gr i m) x H k) (bnd (tget T t) fun e=>match e.k with
       | .sl el w _ _=>zj (te = el /\ wide w new = true /\ n < m /\ n + new.length = m) (hset H i (.grow te nl (els.take n ++ new)) fun H'=>k (.gr i m) H')
       | _=>False))
     | _=>False
   | _=>False
 | s=>za2 T t s x H k
def xSlice (T : Tab) (t : TypeId) (x : AV) (lo hi mx : Option AV) (k : AV -> Prop) : Prop:=
 match x with
 | .sl nl els=>bnd (tget T t) fun e=>match e.k with
   | .sl _ n _ _=>bnd (bdA 0 lo) fun l=>bnd (bdA els.length hi) fun r =>
     match mx with
     | none=>zj (0 <= l /\ l <= r /\ r <= els.length /\ (l = 0 \/ wide n els = true)) (k (.sl nl ((els.drop l.toNat).take (r - l).toNat)))
     | some m=>bnd (intA m) fun m=>zj (l = 0 /\ r = 0 /\ m = 0 /\ hi.isSome = true) (k (if nl then .sl true [] else .se))
   | _=>False
 | .pim cs=>bnd (tget T t) fun e=>match e.k with
   | .ar m false 1=>bnd (bdA 0 lo) fun l=>bnd (bdA m hi) fun r=>match mx with
     | none=>zj (m <= cs.length /\ 0 <= l /\ l <= r /\ r <= m) (k (.sl false ((cs.drop l.toNat).take (r - l).toNat)))
     | some _=>False
   | _=>False
 | _=>False
def zdf (T : Tab) (t : TypeId) (H : List Blk) (x : AV) (lo hi mx : Option AV) (k : AV -> Prop) : Prop:=
 match x with
 | .ptr i o=>match mx with
   | some _=>False
   | none=>bnd (tget T t) fun e=>match e.k with
     | .ar m _ w=>bnd (bdA 0 lo) fun l=>bnd (bdA m hi) fun r=>match lget H i with
       | some (.cells _)=>zj (0 <= l /\ l <= r /\ r <= m) (k (.os i 0 (o + l.toNat * w) (r - l).toNat))
       | _=>False
     | _=>False
 | .gr i n=>match mx with
   | some _=>False
   | none=>bnd (tget T t) fun e=>match e.k with
     | .sl _ w _ _=>bnd (bdA 0 lo) fun l=>bnd (bdA n hi) fun r=>match lget H i with
       | some (.grow te _ els)=>bnd (tget T te) fun e'=>zj ((0 <= l /\ l <= r /\ r <= n /\ 0 < n) /\ els.length = n /\ w = e'.n) (k (.os i n l.toNat (r - l).toNat))
       | _=>False
     | _=>False
 | .os i m o n=>match mx with
   | some _=>False
   | none=>bnd (tget T t) fun e=>match e.k with
     | .sl _ w _ _=>bnd (bdA 0 lo) fun l=>bnd (bdA n hi) fun r=>match lget H i with
       | some (.grow te _ els)=>bnd (tget T te) fun e'=>zj ((0 <= l /\ l <= r /\ r <= n) /\ els.length = m /\ w = e'.n) (k (.os i m (o + l.toNat) (r - l).toNat))
       | some (.cells _)=>zj (0 <= l /\ l <= r /\ r <= n) (k (.os i m (o + l.toNat * w) (r - l).toNat))
       | _=>False
     | _=>False
 | x=>xSlice T t x lo hi mx k
def xUn (op : UnOp) (x : AV) (k : AV -> Prop) : Prop:=
 match op,x with
 | .not,.bool b=>k (.bool !b)
 | .neg,.int q n=>XInt q (0 - n) k
 | .xor,.int q n=>k (.int q (ixor q (if q.signed then -1 else q.max) n))
 | _,_=>False
def xConv (T : Tab) (s d : TypeId) (x : AV) (k : AV -> Prop) : Prop:=
 match x with
 | .int _ n=>bnd (tget T s) fun _=>bnd (tget T d) fun e=>match e.k with | .int q=>XInt q n k | _=>False
 | _=>False
def xExt (x : AV) (i : Nat) (k : AV -> Prop) : Prop:=match x with | .tup vs=>bnd (lget vs i) k | _=>False
def xLen (T : Tab) (t : TypeId) (H : List Blk) (x : AV) (k : AV -> Prop) : Prop:=
 bnd (tget T t) fun e=>match e.k,x with
 | .sl _ _ _ _,.sl _ els=>k (.int .i64 els.length)
 | .sl _ _ _ _,.se=>k (.int .i64 0)
 | .sl _ _ _ _,.gr i n=>match lget H i with | some (.grow _ _ els)=>zj (els.length = n) (k (.int .i64 n)) | _=>False
 | .sl _ _ _ _,.os _ _ _ n=>k (.int .i64 n)
 | .mp _,.mp b=>match lget H b with | some (.map es)=>k (.int .i64 es.length) | _=>False
 | _,_=>False
def za9 (T : Tab) (b : Builtin) (ts : List TypeId) (rs : List AV) (H : List Blk) (k : AV -> List Blk -> Prop) : Prop:=
 match b,ts,rs with
 | .len,[t],[x]=>xLen T t H x (k · H)
 | .append,[t,t'],[s,x]=>match Nat.beq t t' with | true=>fN T t s x H k | false=>False
 | .min,_,[.int q a,.int _ b]=>k (.int q (min a b)) H
 | .max,_,[.int q a,.int _ b]=>k (.int q (max a b)) H
 | .copy,[t,_],[d,x]=>xCopy T t d x H k
 | .clear,[t],[x]=>xClear T t x H k
 | _,_,_=>False
def xCallV (P : Program) (fv : AV) (rs : List AV) (H : List Blk) (k : AV -> List Blk -> Prop) : Prop:=
 match fv with
 | .fn g caps=>za P g (rs ++ caps) H k
 | .bf g caps=>za P g (caps ++ rs) H k
 | .yld i=>wH P i rs H k
 | _=>False
structure XGetP (z : AV) (ok : Bool) (n : Int × Int) (es : List ((Int × Int) × AV)) (k : AV -> Prop) : Prop where
 o : k (mres ok z (vQ n es))
def xIsPm (T : Tab) (t : TypeId) : Bool:=match tget T t with | some e=>(match e.k with | .mp2 _=>true | _=>false) | none=>false
def xLookup (T : Tab) (t : TypeId) (H : List Blk) (x i : AV) (ok : Bool) (k : AV -> Prop) : Prop:=
 bnd (tget T t) fun e=>match e.k,x,i with
 | .mp z,.mp b,.int .i64 n=>match lget H b with | some (.map es)=>XGetM H z ok n es k | _=>False
 | .mp z,.im ks vs,.int .i64 n=>XGetM H z ok n (ks.zip vs) k
 | .mp2 z,.mp b,.agg [.int .i64 a,.int .i64 c]=>match lget H b with | some (.pm es)=>XGetP z ok (a,c) es k | _=>False
 | _,_,_=>False
def zbi (T : Tab) (t : TypeId) (H : List Blk) (x i v : AV) (k : AV -> List Blk -> Prop) : Prop:=
 bnd (tget T t) fun e=>match e.k,x,i with
 | .mp _,.mp b,.int .i64 n=>match lget H b with | some (.map es)=>hset H b (.map (mput n v es)) fun H'=>k (.tup []) H' | _=>False
 | .mp2 _,.mp b,.agg [.int .i64 a,.int .i64 c]=>match lget H b with | some (.pm es)=>hset H b (.pm (jn (a,c) v es)) fun H'=>k (.tup []) H' | _=>False
 | _,_,_=>False
structure XStr (P : Program) (t : TypeId) (s : ByteArray) (n : Int) (k : AV -> Prop) : Prop where
 o : ∃ b,P.underlying t = some .string /\ 0 <= n /\ s[n.toNat]? = some b /\ k (.int .u8 b.toNat)
def zbz (P : Program) (t : TypeId) (s : ByteArray) (i : AV) (k : AV -> Prop) : Prop:=match i with | .int _ n=>XStr P t s n k | _=>False
def XOp (P : Program) (T : Tab) (own : List Nat) (dst : Option Nat) (σ : St) (H : List Blk) (k : AV -> List Blk -> Prop) : Op -> Prop
 | .move x | .assign x=>bnd (ev σ x) fun r=>k r H
 | .pick c a b=>bnd (ev σ c) fun r=>match r with | .bool q=>XBr q (bnd (ev σ a) fun r=>k r H) (bnd (ev σ b) fun r=>k r H) | _=>False
 | .alloc t=>bnd (tget T t) fun e=>match e.z with | some z=>xBoxO z H k | none=>False
 | .box _ x=>bnd (ev σ x) fun r=>match ownD own dst with | true=>xBoxO r H k | false=>xone r fun cs=>k (.pim cs) H
 | .build t ps=>bnd (evP σ ps.toList) fun rs=>xBuild T t rs (k · H)
 | .buildSlice t n ps=>bnd (evP σ ps.toList) fun rs=>fA T (ownD own dst) t n rs H k
 | .load t x=>bnd (ev σ x) fun p=>xLoad T t H p (k · H)
 | .store t x v=>bnd (ev σ x) fun p=>bnd (ev σ v) fun r=>xStore T t H p r k
 | .nilCheck x=>bnd (ev σ x) fun r=>match r with | .pim _ | .ptr _ _ | .gp _ _ _ _ | .fn _ _ | .bf _ _=>k r H | _=>False
 | .binOp op t x y _=>bnd (ev σ x) fun u=>bnd (ev σ y) fun v=>xBin T t op u v (k · H)
 | .unOp op _ x=>bnd (ev σ x) fun r=>xUn op r (k · H)
 | .convert s d x=>bnd (ev σ x) fun r=>xConv T s d r (k · H)
 | .makeFunc fn first caps=>match fn with
   | .func f=>match first.toList with
     | []=>bnd (evL σ caps.toList) fun cs=>k (.fn f cs) H
     | _ :: _=>match caps.toList with | []=>bnd (evL σ first.toList) fun cs=>k (.bf f cs) H | _=>False
   | _=>False
 | .makeSlice t l c=>bnd (ev σ l) fun l=>bnd (ev σ c) fun c=>qa T t l c H k
 | .slice t x lo hi mx=>bnd (ev σ x) fun r=>bnd (evO σ lo) fun lo=>bnd (evO σ hi) fun hi=>bnd (evO σ mx) fun mx=>zdf T t H r lo hi mx (k · H)
 | .fieldAddr t x f=>bnd (ev σ x) fun r=>zaB T t r f (k · H)
 | .field t x f=>bnd (ev σ x) fun r=>xField T t r f (k · H)
 | .indexAddr t x i=>bnd (ev σ x) fun r=>bnd (ev σ i) fun i=>vZ T t H r i (k · H)
 | .index t x i=>match x with | .const (.string s)=>(bnd (ev σ i) fun i=>zbz P t s i (k · H)) | x=>bnd (ev σ x) fun r=>bnd (ev σ i) fun i=>xIndex T t r i (k · H)
 | .extract x i=>bnd (ev σ x) fun r=>xExt r i (k · H)
 | .call c=>match c.callee with
   | .value f=>bnd (ev σ f) fun fv=>bnd (evL σ c.args.toList) fun rs=>xCallV P fv rs H k
   | .builtin b=>bnd (evL σ c.args.toList) fun rs=>za9 T b c.argTypes.toList rs H k
   | _=>False
 | .makeMap t r=>match r with | none=>(match xIsPm T t with | true=>hpush H 0 (.pm []) fun i H'=>k (.mp i) H' | false=>hpush H 0 (.map []) fun i H'=>k (.mp i) H') | some _=>False
 | .lookup t x i ok=>bnd (ev σ x) fun r=>bnd (ev σ i) fun i=>xLookup T t H r i ok (k · H)
 | .mapUpdate t m i v | .insert t m i v=>bnd (ev σ m) fun r=>bnd (ev σ i) fun i=>bnd (ev σ v) fun v=>zbi T t H r i v k
 | _=>False
end GA
end
section
namespace GA
open Go Go.RowKit
section
variable {P : Program} {T : Tab} {N : Nat} {own : List Nat} {σ : St} {H : List Blk} {k : AV -> Prop} {t : TypeId}
theorem zm {α : Type} {o : Option α} {k k' : α -> Prop} (h : bnd o k) (hk : ∀ a,o = some a -> k a -> k' a) : bnd o k':=by
 cases o with | none=>exact h.elim | some a=>exact hk a rfl h
theorem zeW (ok : zA P T) {op : BinOp} {x y : AV} (h : xBin T t op x y k) : zcq P t op x y k:=by
 unfold xBin at h
 split at h
 case h_18 | h_19 | h_20 | h_21 =>
  obtain ⟨e,h1,h2⟩:=zd h
  have:=ok.get h1
  split at h2
  ·rename_i hk;obtain ⟨_,_,_,h3,_⟩:=this;rw [hk] at h3
   first|exact ⟨h3,h2⟩|exact ⟨h3.2.2.1,h2⟩
  ·exact h2.elim
 case h_22 | h_23 =>
  obtain ⟨e,h1,h2⟩:=zd h
  obtain ⟨n,h3,h4⟩:=zd h2
  have h6:=(ok.get h1).2.2.2.2 n h3
  split at h4
  ·rename_i hb
   obtain ⟨qs,bs,g1,g2,g3,g4,g5⟩:=h4.o
   exact .inl ⟨qs,bs,g1,g2,g3,by rw [<- g4];exact h6,by rw [<- g4];simpa [Nat.blt_eq] using hb,g5⟩
  ·obtain ⟨qs,bs,g1,g2,g3,g4,g5⟩:=h4.o
   exact .inr ⟨qs,bs,g1,g2,g3,by rw [<- g4];exact h6,g5⟩
 case h_24=>exact h.elim
 case h_10 | h_11=>exact ⟨h.l,by first|exact h.r.o|exact h.r⟩
 all_goals
  obtain ⟨rfl,h2⟩:=isK_spec h
  first
   | exact ⟨rfl,h2.o⟩
   | exact ⟨rfl,h2.l,h2.r.o⟩
   | exact ⟨rfl,h2.l,h2.r⟩
   | exact ⟨rfl,h2⟩
theorem vd {e : TE} {cs : List AV} (h : xTake e cs k) : if e.ag = true then e.n <= cs.length /\ k (.agg (cs.take e.n)) else bnd cs.head? k:=by
 unfold xTake at h
 split at h
 ·rename_i e1;rw [if_pos e1];exact zap h
 ·rename_i e1;rw [if_neg (by simp [e1])]
  split at h
  ·exact h
  ·exact h.elim
theorem fh (ok : zA P T) {p : AV} (h : xLoad T t H p k) : y0 P t H p k:=by
 obtain ⟨e,h1,h2⟩:=zd h
 have ht:=(ok.get h1).1
 unfold y0;rw [ht,zo]
 split at h2
 ·exact vd h2
 ·split at h2
  ·rename_i hl;rw [zr] at hl
   simp only [atP,hl,zo];exact vd (kN h2).2
  ·exact h2.elim
 ·split at h2
  ·rename_i hl;rw [zr] at hl
   obtain ⟨h3,h4,h5⟩:=h2
   simp only [atP,hl]
   rw [if_pos ⟨h3,h4⟩,zo];exact vd (kN h5).2
  ·exact h2.elim
 ·exact h2.elim
theorem zcp (ok : zA P T) {p v : AV} {k : AV -> List Blk -> Prop} (h : xStore T t H p v k) : fL P t H p v k:=by
 obtain ⟨e,h1,h2⟩:=zd h
 have ht:=(ok.get h1).1
 obtain ⟨h3,h4⟩:=vF h2
 obtain ⟨h5,h6⟩:=zde h4
 unfold fL;rw [ht,zo]
 refine ⟨⟨h5,h3⟩,?_⟩
 split at h6
 ·split at h6
  ·rename_i hl;rw [zr] at hl
   obtain ⟨h7,h8⟩:=vO h6
   have h9:=(zX h8).2
   simp only [zbC,hl];rw [if_pos h7];exact h9
  ·exact h6.elim
 ·split at h6
  ·rename_i hl;rw [zr] at hl
   obtain ⟨e',g1,g2⟩:=zd h6
   have hz:=(ok.get g1).2.1
   simp only [zbC,hl]
   split at g2
   ·rename_i hb
    rw [if_pos ⟨g2.len,g2.lt⟩,if_pos ⟨rfl,by rw [h5,hz];exact Nat.eq_of_beq_eq_true hb⟩]
    exact (zX g2.o).2
   ·rename_i hno
    rw [if_pos ⟨g2.len,g2.lt⟩]
    split
    ·rename_i hh;exfalso;refine hno hh.1 ?_
     rw [h5,hz] at hh;rw [hh.2];exact Nat.beq_refl _
    ·rw [if_pos ⟨by rw [hz];exact g2.le,g2.one⟩]
     exact (zX g2.o).2
  ·exact h6.elim
 ·exact h6.elim
theorem fe {v : AV} {k : AV -> List Blk -> Prop} (h : xBoxO v H k) : zak v H k:=by
 obtain ⟨h1,h2⟩:=vF h
 unfold xNew at h2
 split at h2
 ·obtain ⟨i,h3,h4⟩:=h2.o
  rw [zr] at h3
  exact ⟨h1,.inr ⟨i,h3,(zX h4).2⟩⟩
 ·have:=yH h2
  rw [Nat.zero_add] at this
  exact ⟨h1,.inl this⟩
theorem w0 {p : AV} {off : Nat} (h : xAddP p off k) : bnd (addP p off) k:=by
 unfold xAddP at h;split at h
 ·exact h
 ·exact h
 ·exact h
 ·exact h.elim
theorem zea {p : AV} {off : Nat} (h : xFldP p off k) : bnd (addP p off) k:=by
 unfold xFldP at h;split at h
 ·split at h
  ·exact h.o
  ·exact (kN h).2
 ·exact h
 ·exact h
 ·exact h.elim
theorem fm {cs : List AV} {ag : Bool} {off n : Nat} (h : xPart cs ag off n k) : zb5 cs ag off n k:=by
 unfold xPart at h;unfold zb5
 split at h
 ·obtain ⟨h1,h2⟩:=kN h
  obtain ⟨h3,h4⟩:=zap h2
  rw [if_pos rfl];exact ⟨by simp at h3;omega,h4⟩
 ·obtain ⟨h1,h2⟩:=kN h
  rw [if_neg (by simp)]
  have : cs[off]? = (cs.drop off).head?:=by simp
  rw [this]
  split at h2
  ·rename_i e;rw [e];exact h2
  ·exact h2.elim
theorem zeX {e : TE} {f : Nat} {x : Nat × Bool × Nat} (h : lget (fields e.k) f = some x) : ∃ fs,e.k = .st fs /\ lget fs f = some x:=by
 cases hk : e.k with
 | st fs=>rw [hk] at h;exact ⟨fs,rfl,h⟩
 | _=>rw [hk] at h;simp [fields,lget] at h
theorem fld_of (ok : zA P T) {e : TE} {f : Nat} {x : Nat × Bool × Nat} (h1 : tget T t = some e) (h2 : lget (fields e.k) f = some x) : fldK P t f = some x:=by
 obtain ⟨fs,h3,h4⟩:=zeX h2
 obtain ⟨_,_,_,h5,_⟩:=ok.get h1
 rw [h3] at h5;exact (h5.1 f x h4).1
theorem gC (ok : zA P T) {p : AV} {f : Nat} (h : zaB T t p f k) : j1 P t p f k:=by
 obtain ⟨e,h1,h2⟩:=zd h
 obtain ⟨x,h3,h4⟩:=zd h2
 unfold j1;rw [fld_of ok h1 h3,zo]
 split at h4
 ·exact h4.elim
 ·rename_i e;exact ⟨by omega,zea h4⟩
theorem zc0 (ok : zA P T) {x : AV} {f : Nat} (h : xField T t x f k) : qo P t x f k:=by
 unfold xField at h;split at h
 ·obtain ⟨e,h1,h2⟩:=zd h
  obtain ⟨x,h3,h4⟩:=zd h2
  unfold qo;simp only;rw [fld_of ok h1 h3,zo];exact fm h4
 ·exact h.elim
theorem zdh (ok : zA P T) {x i : AV} (h : xIndex T t x i k) : gd P t x i k:=by
 unfold xIndex at h;split at h
 ·obtain ⟨e,h1,h2⟩:=zd h
  obtain ⟨_,_,_,h5,_⟩:=ok.get h1
  split at h2
  ·rename_i hk;rw [hk] at h5
   unfold gd;simp only;rw [h5.1,zo]
   exact ⟨h2.l.1,h2.l.2,fm h2.r⟩
  ·exact h2.elim
 ·exact h.elim
theorem gO (ok : zA P T) {x i : AV} (h : vZ T t H x i k) : jc P t H x i k:=by
 unfold vZ at h;split at h
 ·obtain ⟨e,h1,h2⟩:=zd h
  obtain ⟨_,_,_,h5,_⟩:=ok.get h1
  unfold jc
  split at h2
  ·rename_i hk;rw [hk] at h5;simp only;rw [h5.2.1,zo];exact ⟨h2.lo,h2.hi,h2.wd,h2.o⟩
  ·rename_i hk;rw [hk] at h5;simp only;rw [h5.2.1,zo]
   split at h2
   ·rename_i hl;rw [zr] at hl
    obtain ⟨e',g1,g2⟩:=zd h2
    rw [hl];exact ⟨g2.l.1,g2.l.2.1.trans (ok.get g1).2.1.symm,g2.l.2.2.1,g2.l.2.2.2,g2.r⟩
   ·exact h2.elim
  ·rename_i hk;rw [hk] at h5;simp only;rw [h5.2.1,zo]
   split at h2
   ·rename_i hl;rw [zr] at hl
    obtain ⟨e',g1,g2⟩:=zd h2
    rw [hl];exact ⟨g2.l.1,g2.l.2.1.trans (ok.get g1).2.1.symm,g2.l.2.2.1,g2.l.2.2.2,g2.r⟩
   ·rename_i hl;rw [zr] at hl
    rw [hl];exact ⟨h2.l.1,h2.l.2,h2.r⟩
   ·exact h2.elim
  ·rename_i hk;rw [hk] at h5;simp only;rw [h5.1,zo];exact ⟨h2.lo,h2.hi,w0 h2.o⟩
  ·rename_i hk;rw [hk] at h5;simp only;rw [h5.1,zo];exact ⟨h2.lo,h2.hi,w0 h2.o⟩
  ·rename_i hk;rw [hk] at h5;simp only;rw [h5.1,zo];exact ⟨h2.lo,h2.hi,w0 h2.o⟩
  ·exact h2.elim
 ·exact h.elim
theorem place_of (ok : zA P T) {e : TE} {i : Nat} {x : Nat × Nat} (h1 : tget T t = some e) (h2 : place e.k i = some x) : kP P t i = some x:=by
 obtain ⟨_,_,_,h5,_⟩:=ok.get h1
 unfold place at h2
 split at h2
 ·rename_i hk;rw [hk] at h5
  split at h2
  ·rename_i hl;cases h2;exact (h5.1 _ _ hl).2
  ·cases h2
 ·rename_i hk;rw [hk] at h5;cases h2;exact h5.2.2 i
 ·cases h2
theorem fB (ok : zA P T) {e : TE} (h1 : tget T t = some e) : ∀ {ps : List (Nat × AV)} {cells : List AV} {k : List AV -> Prop},xFill e.k cells ps k -> bnd (zaf (kP P t) cells ps) k
 | [],_,_,h=>h
 | (i,v) :: rest,cells,k,h=>by
   obtain ⟨x,h2,h3⟩:=zd h
   obtain ⟨h4,h5⟩:=vF h3
   obtain ⟨h6,h7⟩:=zde h5
   obtain ⟨h8,h9⟩:=vO h7
   simp only [zaf,place_of ok h1 h2]
   rw [if_pos ⟨h6,by rw [<- h6];exact h8,h4⟩]
   exact fB ok h1 h9
theorem zcR (ok : zA P T) {ps : List (Nat × AV)} (h : xBuild T t ps k) : zcO P t ps k:=by
 obtain ⟨e,h1,h2⟩:=zd h
 obtain ⟨_,_,hz,h5,_⟩:=ok.get h1
 split at h2
 ·rename_i zc h3 h4
  refine ⟨?_,?_⟩
  ·cases hk : e.k <;> rw [hk] at h4 h5 <;> first|exact h5.2|exact h5.2.1|(simp [isAgK] at h4;done)
  ·rw [hz _ h3,zo];exact fB ok h1 h2
 ·exact h2.elim
variable {K : AV -> List Blk -> Prop}
theorem qC (ok : zA P T) {o : Bool} {len : Nat} {ps : List (Nat × AV)} (h : fA T o t len ps H K) : jv P o t len ps H K:=by
 obtain ⟨e,h1,h2⟩:=zd h
 obtain ⟨_,_,_,h5,_⟩:=ok.get h1
 split at h2
 ·rename_i hk;rw [hk] at h5
  obtain ⟨els,h3,h4⟩:=zd h2
  unfold jv;rw [h5.1,zo,h3,zo]
  refine ⟨h4.l,?_⟩
  have h6:=h4.r
  split at h6
  ·rw [if_pos rfl];have:=yH h6;rw [Nat.zero_add] at this;exact this
  ·rw [if_neg (by simp)]
   split at h6
   ·exact h6
   ·exact h6
 ·exact h2.elim
theorem gw (ok : zA P T) {l c : AV} (h : qa T t l c H K) : k0 P t l c H K:=by
 unfold qa at h;split at h
 ·obtain ⟨e,h1,h2⟩:=zd h
  obtain ⟨_,_,_,h5,_⟩:=ok.get h1
  split at h2
  ·rename_i hk;rw [hk] at h5
   unfold k0;simp only;rw [h5.1,zo,h5.2.2.2,zo]
   refine ⟨⟨h2.l.1,h2.l.2.1,h2.l.2.2.1,h2.l.2.2.2⟩,?_⟩
   have h3:=h2.r
   unfold xNew at h3
   split at h3
   ·obtain ⟨i,h4,h6⟩:=h3.o
    rw [zr] at h4
    exact .inr ⟨i,h4,(zX h6).2⟩
   ·have:=yH h3;rw [Nat.zero_add] at this
    exact .inl this
  ·exact h2.elim
 ·exact h.elim
theorem fX {x : AV} {k : List AV -> Prop} (h : xEls H x k) : bnd (vU H x) k:=by
 unfold xEls at h;split at h
 ·exact h
 ·exact h
 ·split at h
  ·rename_i hl;rw [zr] at hl
   simp only [vU,hl];rw [if_pos h.l];exact h.r
  ·exact h.elim
 ·split at h
  ·rename_i hl;rw [zr] at hl
   simp only [vU,hl];rw [if_pos h.l];exact h.r
  ·rename_i hl;rw [zr] at hl
   simp only [vU,hl];rw [if_pos h.l];exact h.r
  ·exact h.elim
 ·exact h.elim
theorem vW {d : AV} {el : TypeId} {new : List AV} {k : Nat -> List Blk -> Prop} (h : fP H d el new k) : j9 P H d el new k:=by
 unfold fP at h;unfold j9;split at h
 ·split at h
  ·rename_i hl;rw [zr] at hl
   simp only [hl];exact ⟨h.l,(zX h.r.o).2⟩
  ·exact h.elim
 ·split at h
  ·rename_i hl;rw [zr] at hl
   simp only [hl];exact ⟨h.l,(zX h.r.o).2⟩
  ·exact h.elim
 ·exact h.elim
theorem zdz (ok : zA P T) {d x : AV} (h : xCopy T t d x H K) : zc1 P t d x H K:=by
 obtain ⟨e,h1,h2⟩:=zd h
 obtain ⟨_,_,_,h5,_⟩:=ok.get h1
 split at h2
 ·rename_i hk;rw [hk] at h5
  unfold zc1;rw [h5.1,zo]
  exact zm (fX h2) fun new _ h3=>⟨h3.l,vW h3.r⟩
 ·exact h2.elim
theorem zcu (ok : zA P T) {x : AV} (h : xClear T t x H K) : fI P t x H K:=by
 obtain ⟨e,h1,h2⟩:=zd h
 obtain ⟨_,_,_,h5,_⟩:=ok.get h1
 split at h2
 ·rename_i hk;rw [hk] at h5
  unfold fI;rw [h5.1,zo]
  show bnd (z6 P _) _
  rw [h5.2.2.2,zo]
  exact zm h2 fun n _ h3=>vW h3
 ·exact h2.elim
theorem vm (ok : zA P T) {H : List Blk} {s x : AV} (h : za2 T t s x H K) : wy P t s x H K:=by
 obtain ⟨e,h1,h2⟩:=zd h
 obtain ⟨_,_,_,h5,_⟩:=ok.get h1
 split at h2
 ·rename_i hk;rw [hk] at h5
  unfold wy;rw [h5.1,zo]
  refine zm (fX h2) fun new _ h3=>⟨h3.l,?_⟩
  have h4:=h3.r
  split at h4
  ·have:=yH h4.r;rw [Nat.zero_add] at this;exact ⟨h4.l,this⟩
  ·have:=yH h4.r;rw [Nat.zero_add] at this;exact ⟨h4.l,this⟩
  ·split at h4
   ·rename_i hl;rw [zr] at hl
    simp only [hl];exact ⟨⟨h4.l.1,h4.l.2.1,h4.l.2.2.1,h4.l.2.2.2⟩,(zX h4.r).2⟩
   ·exact h4.elim
  ·exact h4.elim
 ·exact h2.elim
theorem zbu (ok : zA P T) {s x : AV} (h : fN T t s x H K) : wu P t s x H K:=by
 cases s with
 | os i m o n =>
   cases x with
   | sl nx ex =>
     unfold fN at h
     unfold wu
     dsimp only at h ⊢
     split at h
     ·rename_i hl;rw [zr] at hl
      simp only [hl]
      refine ⟨h.l,?_⟩
      rcases h.r.o with ⟨h1,h2⟩ | h2
      ·exact .inl ⟨h1,vm ok h2⟩
      ·refine .inr ?_
       obtain ⟨e,h3,h4⟩:=zd h2
       obtain ⟨_,_,_,h5,_⟩:=ok.get h3
       split at h4
       ·rename_i hk;rw [hk] at h5
        unfold v6;rw [h5.1,zo]
        exact ⟨h4.l,(zX h4.r).2⟩
       ·exact h4.elim
     ·exact h.elim
   | _=>exact h.elim
 | _ =>
   unfold fN at h
   unfold wu
   exact vm ok h
theorem zct (ok : zA P T) {x : AV} {lo hi mx : Option AV} (h : xSlice T t x lo hi mx k) : vE P t x lo hi mx k:=by
 unfold xSlice at h;split at h
 ·obtain ⟨e,h1,h2⟩:=zd h
  obtain ⟨_,_,_,h5,_⟩:=ok.get h1
  split at h2
  ·rename_i hk;rw [hk] at h5
   unfold vE;simp only;rw [h5.2.1,zo]
   refine zm h2 fun l _ h3=>zm h3 fun r _ h4=>?_
   split at h4
   ·exact ⟨h4.l,h4.r⟩
   ·exact zm h4 fun m _ h5=>⟨h5.l,h5.r⟩
  ·exact h2.elim
 ·obtain ⟨e,h1,h2⟩:=zd h
  obtain ⟨_,_,_,h5,_⟩:=ok.get h1
  split at h2
  ·rename_i hk;rw [hk] at h5
   unfold vE;simp only;rw [h5.1,zo]
   obtain ⟨l,e1,h3⟩:=zd h2
   obtain ⟨r,e2,h4⟩:=zd h3
   split at h4
   ·show (false = false /\ 1 = 1 /\ _ <= _ /\ _)
    refine ⟨rfl,rfl,h4.l.1,?_⟩
    rw [e1,zo,e2,zo]
    exact ⟨rfl,h4.l.2,h4.r⟩
   ·exact h4.elim
  ·exact h2.elim
 ·exact h.elim
theorem zbq (ok : zA P T) {x : AV} {lo hi mx : Option AV} (h : zdf T t H x lo hi mx k) : vb P t H x lo hi mx k:=by
 unfold zdf at h;unfold vb;split at h
 ·split at h
  ·exact h.elim
  ·obtain ⟨e,h1,h2⟩:=zd h
   obtain ⟨_,_,_,h5,_⟩:=ok.get h1
   split at h2
   ·rename_i hk;rw [hk] at h5
    refine ⟨rfl,?_⟩
    rw [h5.1,zo]
    refine zm h2 fun l _ h3=>zm h3 fun r _ h4=>?_
    split at h4
    ·rename_i hl;rw [zr] at hl
     rw [hl];exact ⟨h4.l,trivial,h4.r⟩
    ·exact h4.elim
   ·exact h2.elim
 ·split at h
  ·exact h.elim
  ·obtain ⟨e,h1,h2⟩:=zd h
   obtain ⟨_,_,_,h5,_⟩:=ok.get h1
   split at h2
   ·rename_i hk;rw [hk] at h5
    refine ⟨rfl,?_⟩
    rw [h5.2.1,zo]
    refine zm h2 fun l _ h3=>zm h3 fun r _ h4=>?_
    split at h4
    ·rename_i hl;rw [zr] at hl
     obtain ⟨e',g1,g2⟩:=zd h4
     rw [hl];exact ⟨g2.l.1,⟨g2.l.2.1,g2.l.2.2.trans (ok.get g1).2.1.symm⟩,g2.r⟩
    ·exact h4.elim
   ·exact h2.elim
 ·split at h
  ·exact h.elim
  ·obtain ⟨e,h1,h2⟩:=zd h
   obtain ⟨_,_,_,h5,_⟩:=ok.get h1
   split at h2
   ·rename_i hk;rw [hk] at h5
    refine ⟨rfl,?_⟩
    rw [h5.2.1,zo]
    refine zm h2 fun l _ h3=>zm h3 fun r _ h4=>?_
    split at h4
    ·rename_i hl;rw [zr] at hl
     obtain ⟨e',g1,g2⟩:=zd h4
     rw [hl];exact ⟨g2.l.1,g2.l.2.1,g2.l.2.2.trans (ok.get g1).2.1.symm,g2.r⟩
    ·rename_i hl;rw [zr] at hl
     rw [hl];exact ⟨h4.l,h4.r⟩
    ·exact h4.elim
   ·exact h2.elim
 ·rename_i n1 n2 n3
  cases x <;> first|exact (n1 _ _ rfl).elim|exact (n2 _ _ rfl).elim|exact (n3 _ _ _ _ rfl).elim|exact zct ok h
theorem xUn_sound {op : UnOp} {x : AV} (h : xUn op x k) : opUn op x k:=by
 unfold xUn at h;split at h
 ·exact h
 ·exact h.o
 ·exact h
 ·exact h.elim
theorem zdF (ok : zA P T) {s d : TypeId} {x : AV} (h : xConv T s d x k) : zcx P s d x k:=by
 unfold xConv at h;split at h
 ·obtain ⟨e,h1,h2⟩:=zd h
  obtain ⟨e',h3,h4⟩:=zd h2
  obtain ⟨i,u,_,h6,_⟩:=wb (ok.get h1).1
  obtain ⟨_,_,_,h5,_⟩:=ok.get h3
  split at h4
  ·rename_i hk;rw [hk] at h5
   exact ⟨by rw [h6];rfl,by rw [h5];exact h4.o⟩
  ·exact h4.elim
 ·exact h.elim
theorem zez {x : AV} {i : Nat} (h : xExt x i k) : opExt x i k:=by
 unfold xExt at h;split at h
 ·rw [zr] at h;exact h
 ·exact h.elim
theorem zeU (ok : zA P T) {x : AV} (h : xLen T t H x k) : opLen P t H x k:=by
 obtain ⟨e,h1,h2⟩:=zd h
 obtain ⟨_,_,_,h5,_⟩:=ok.get h1
 split at h2
 ·rename_i hk;rw [hk] at h5;exact ⟨h5.2.2.1,h2⟩
 ·rename_i hk;rw [hk] at h5;exact ⟨h5.2.2.1,h2⟩
 ·rename_i hk;rw [hk] at h5
  split at h2
  ·rename_i hl;rw [zr] at hl
   exact ⟨h5.2.2.1,by rw [hl];exact h2.l,h2.r⟩
  ·exact h2.elim
 ·rename_i hk;rw [hk] at h5;exact ⟨h5.2.2.1,h2⟩
 ·rename_i hk;rw [hk] at h5
  obtain ⟨a,b,_,_,g1,_⟩:=gH h5
  split at h2
  ·rename_i hl;rw [zr] at hl
   exact ⟨⟨a,b,g1⟩,by rw [hl];exact h2⟩
  ·exact h2.elim
 ·exact h2.elim
theorem zaH (ok : zA P T) {b : Builtin} {ts : List TypeId} {rs : List AV} (h : za9 T b ts rs H K) : gz P b ts rs H K:=by
 unfold za9 at h;split at h
 ·exact zeU ok h
 ·split at h
  ·rename_i e;exact ⟨Nat.eq_of_beq_eq_true e,zbu ok h⟩
  ·exact h.elim
 ·rename_i q a q' b
  show K (.int q (if b < a then b else a)) H
  rwa [show (if b < a then b else a) = min a b by omega]
 ·rename_i q a q' b
  show K (.int q (if b > a then b else a)) H
  rwa [show (if b > a then b else a) = max a b by omega]
 ·exact zdz ok h
 ·exact zcu ok h
 ·exact h.elim
theorem zcz {fv : AV} {rs : List AV} : xCallV P fv rs H K -> (match fv with | .fn g caps=>yo P g (rs ++ caps) H K | .bf g caps=>yo P g (caps ++ rs) H K | .yld i=>vc P i rs H K | _=>False):=by
 intro h;unfold xCallV at h;split at h
 ·exact h.o
 ·exact h.o
 ·exact h.o
 ·exact h.elim
theorem zbn (ok : zA P T) {x i : AV} {c : Bool} (h : xLookup T t H x i c k) : kM P t H x i c k:=by
 obtain ⟨e,h1,h2⟩:=zd h
 obtain ⟨_,_,_,h5,_⟩:=ok.get h1
 split at h2
 ·rename_i hk;rw [hk] at h5
  simp only [kM]
  unfold q8;rw [h5,zo]
  split at h2
  ·rename_i hl;rw [zr] at hl;simp only [hl];exact h2.o
  ·exact h2.elim
 ·rename_i hk;rw [hk] at h5
  simp only [kM]
  unfold q8;rw [h5,zo];exact h2.o
 ·rename_i hk;rw [hk] at h5
  unfold kM;dsimp only;rw [h5,zo]
  split at h2
  ·rename_i hl;rw [zr] at hl;simp only [hl];exact h2.o
  ·exact h2.elim
 ·exact h2.elim
theorem wo (ok : zA P T) {x i v : AV} (h : zbi T t H x i v K) : yM P t H x i v K:=by
 obtain ⟨e,h1,h2⟩:=zd h
 obtain ⟨_,_,_,h5,_⟩:=ok.get h1
 split at h2
 ·rename_i hk;rw [hk] at h5
  simp only [yM]
  unfold vh;rw [h5,zo]
  split at h2
  ·rename_i hl;rw [zr] at hl;simp only [hl];exact (zX h2).2
  ·exact h2.elim
 ·rename_i hk;rw [hk] at h5
  unfold yM;dsimp only;rw [h5,zo]
  split at h2
  ·rename_i hl;rw [zr] at hl;simp only [hl];exact (zX h2).2
  ·exact h2.elim
 ·exact h2.elim
theorem XOp.sound (ok : zA P T) {d : Option Nat} {op : Op} (h : XOp P T own d σ H K op) : AOp P own d σ H K op:=by
 unfold XOp at h
 split at h
 case h_3 =>
  refine zm h fun r _ h1=>?_
  split at h1
  ·exact ⟨h1.t,h1.f⟩
  ·exact h1.elim
 case h_4 =>
  obtain ⟨e,h1,h2⟩:=zd h
  split at h2
  ·rename_i hz;show bnd (z6 P _) _;rw [(ok.get h1).2.2.1 _ hz,zo];exact fe h2
  ·exact h2.elim
 case h_5 =>
  refine zm h fun r _ h1=>?_
  split at h1
  ·rename_i e;rw [if_pos e];exact fe h1
  ·rename_i e;rw [if_neg (by rw [e];simp)];exact vF h1
 case h_6=>exact zm h fun _ _ h1=>zcR ok h1
 case h_7=>exact zm h fun _ _ h1=>qC ok h1
 case h_8=>exact zm h fun _ _ h1=>fh ok h1
 case h_9=>exact zm h fun _ _ h1=>zm h1 fun _ _ h2=>zcp ok h2
 case h_10=>exact h
 case h_11=>exact zm h fun _ _ h1=>zm h1 fun _ _ h2=>zeW ok h2
 case h_12=>exact zm h fun _ _ h1=>xUn_sound h1
 case h_13=>exact zm h fun _ _ h1=>zdF ok h1
 case h_14 =>
  split at h
  ·split at h
   ·rename_i hf;exact .inl ⟨by simpa using hf,h⟩
   ·split at h
    ·rename_i hf;exact .inr ⟨by simpa using hf,h⟩
    ·exact h.elim
  ·exact h.elim
 case h_15=>exact zm h fun _ _ h1=>zm h1 fun _ _ h2=>gw ok h2
 case h_16=>exact zm h fun _ _ h1=>zm h1 fun _ _ h2=>zm h2 fun _ _ h3=>zm h3 fun _ _ h4=>zbq ok h4
 case h_17=>exact zm h fun _ _ h1=>gC ok h1
 case h_18=>exact zm h fun _ _ h1=>zc0 ok h1
 case h_19=>exact zm h fun _ _ h1=>zm h1 fun _ _ h2=>gO ok h2
 case h_20 =>
  split at h
  ·refine .inr ⟨_,rfl,zm h fun r _ h1=>?_⟩
   unfold zbz at h1
   split at h1
   ·obtain ⟨b,q1,q2,q3,q4⟩:=h1.o
    exact ⟨q1,q2,b,q3,q4⟩
   ·exact h1.elim
  ·exact .inl (zm h fun _ _ h1=>zm h1 fun _ _ h2=>zdh ok h2)
 case h_21=>exact zm h fun _ _ h1=>zez h1
 case h_22 =>
  split at h
  ·rename_i hc
   show jM P σ H _ K
   unfold jM;rw [hc]
   exact zm h fun fv _ h1=>zm h1 fun rs _ h2=>zcz h2
  ·rename_i hc
   show jM P σ H _ K
   unfold jM;rw [hc]
   exact zm h fun rs _ h1=>zaH ok h1
  ·exact h.elim
 case h_23 =>
  split at h
  ·split at h
   ·have:=yH h;rw [Nat.zero_add] at this;exact .inr this
   ·have:=yH h;rw [Nat.zero_add] at this;exact .inl this
  ·exact h.elim
 case h_24=>exact zm h fun _ _ h1=>zm h1 fun _ _ h2=>zbn ok h2
 case h_25=>exact zm h fun _ _ h1=>zm h1 fun _ _ h2=>zm h2 fun _ _ h3=>wo ok h3
 case h_26=>exact zm h fun _ _ h1=>zm h1 fun _ _ h2=>zm h2 fun _ _ h3=>wo ok h3
 case h_27=>exact h.elim
 all_goals exact h
end
end GA
end
