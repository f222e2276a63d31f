/- Maps of numbers to numbers. -/
import Derived.Test.YtlbdomhfcghjdaaAbs9
import Derived.MapKept
import Derived.RangeFuncRecord
namespace GA
open Go Go.RowKit
set_option linter.unusedVariables false

/-- Of a map type whose keys are numbers: what is read where nothing is. -/
def mapT (P : Program) (t : TypeId) : Option AV :=
  match P.underlying t with
  | some (.map k e) => match P.underlying k with | some (.int .i64) => zeroA P e | _ => none
  | _ => none
def mput (n : Int) (v : AV) : List (Int × AV) → List (Int × AV)
  | [] => [(n, v)]
  | (m, u) :: l => if m = n then (m, v) :: l else (m, u) :: mput n v l
def mget (n : Int) : List (Int × AV) → Option AV
  | [] => none
  | (m, u) :: l => if m = n then some u else mget n l

def opMakeMap (H : List Blk) (k : AV → List Blk → Prop) : Prop := k (.mp H.length) (H ++ [.map []])
def mres (ok : Bool) (z : AV) : Option AV → AV
  | some v => if ok then .tup [v, .bool true] else v
  | none => if ok then .tup [z, .bool false] else z
def opLookup (P : Program) (t : TypeId) (H : List Blk) (x i : AV) (ok : Bool) (k : AV → Prop) : Prop :=
  bnd (mapT P t) fun z => match x, i with
  | .mp b, .int .i64 n => match H[b]? with | some (.map es) => k (mres ok z (mget n es)) | _ => False
  | _, _ => False
def opMapUpdate (P : Program) (t : TypeId) (H : List Blk) (x i v : AV) (k : AV → List Blk → Prop) : Prop :=
  bnd (mapT P t) fun _ => match x, i with
  | .mp b, .int .i64 n => match H[b]? with | some (.map es) => k (.tup []) (H.set b (.map (mput n v es))) | _ => False
  | _, _ => False

theorem mput_keys (n : Int) (v : AV) : ∀ es : List (Int × AV), (es.map (·.1)).Nodup → ((mput n v es).map (·.1)).Nodup ∧ ∀ m, m ∈ (mput n v es).map (·.1) → m = n ∨ m ∈ es.map (·.1)
  | [], _ => by simp [mput]
  | (m, u) :: l, h => by
    simp only [List.map_cons, List.nodup_cons] at h
    unfold mput; split
    · rename_i e; simp only [List.map_cons, List.nodup_cons]; exact ⟨h, fun q hq => .inr hq⟩
    · rename_i e
      obtain ⟨h1, h2⟩ := mput_keys n v l h.2
      simp only [List.map_cons, List.nodup_cons]
      refine ⟨⟨fun hm => ?_, h1⟩, fun q hq => ?_⟩
      · rcases h2 m hm with rfl | h3
        · exact e rfl
        · exact h.1 h3
      · rcases List.mem_cons.1 hq with rfl | hq
        · exact .inr (by simp)
        · rcases h2 q hq with h3 | h3
          · exact .inl h3
          · exact .inr (List.mem_cons_of_mem _ h3)

theorem findNow_spec (n : Int) : ∀ (es : List (Int × AV)) (le : List Go.MapEntry) (i : Nat), le.map (·.key) = es.map (fun p => Value.int .i64 p.1) →
    (Instr.findNow (.int .i64) (.int .i64 n) le i = some none ∧ mget n es = none ∧ ∀ v, mput n v es = es ++ [(n, v)]) ∨
    ∃ j e x, Instr.findNow (.int .i64) (.int .i64 n) le i = some (some (i + j, e.val)) ∧ le[j]? = some e ∧ es[j]? = some (n, x) ∧ mget n es = some x ∧ ∀ v, mput n v es = es.set j (n, v)
  | [], [], i, _ => .inl ⟨rfl, rfl, fun _ => rfl⟩
  | (m, u) :: es, e :: le, i, h => by
    simp only [List.map_cons, List.cons.injEq] at h
    obtain ⟨h1, h2⟩ := h
    by_cases hm : n = m
    · subst hm
      refine .inr ⟨0, e, u, ?_, rfl, rfl, by simp [mget], fun v => by simp [mput]⟩
      simp [Instr.findNow, Instr.sameNow, h1]
    · have hs : Instr.findNow (.int .i64) (.int .i64 n) (e :: le) i = Instr.findNow (.int .i64) (.int .i64 n) le (i + 1) := by
        have : (n == m) = false := by simpa using hm
        simp [Instr.findNow, Instr.sameNow, h1, this]
      have hm' : ¬ m = n := fun e => hm e.symm
      rcases findNow_spec n es le (i + 1) h2 with ⟨g1, g2, g3⟩ | ⟨j, e', x, g1, g2, g3, g4, g5⟩
      · exact .inl ⟨hs.trans g1, by simp [mget, hm', g2], fun v => by simp [mput, hm', g3]⟩
      · exact .inr ⟨j + 1, e', x, by rw [hs, g1]; congr 3; omega, by simpa using g2, by simpa using g3, by simp [mget, hm', g4], fun v => by simp [mput, hm', g5]⟩
  | [], _ :: _, _, h => by simp at h
  | _ :: _, [], _, h => by simp at h

section
variable {P : Program} {E : Env} {h : Nat → Option Obj} {β : Nat → Value} {H : List Blk} {w : World}

theorem mapT_spec {t : TypeId} {z : AV} (e : mapT P t = some z) : ∃ k el i zv, P.underlying t = some (.map k el) ∧ P.underlying k = some (.int .i64) ∧ P.info? el = some i ∧ i.zero = some zv ∧ toAV zv = some z := by
  unfold mapT at e; split at e
  · rename_i k el h1
    split at e
    · rename_i h2
      unfold zeroA at e
      cases h3 : P.info? el with
      | none => simp [h3] at e
      | some i =>
        cases h4 : i.zero with
        | none => simp [h3, h4] at e
        | some zv => simp [h3, h4] at e; exact ⟨k, el, i, zv, h1, h2, h3, h4, e⟩
    · cases e
  · cases e

theorem opMakeMap_sound (s : SR P E h β H w) {t : TypeId} {k : AV → List Blk → Prop} (hk : opMakeMap H k) : Yields P E h β H (Instr.makeMap t none) w k := by
  obtain ⟨s', X⟩ := s.push (w' := w.alloc (.map #[] 0)) s.env (fun k hk => Below.heap_alloc _ _ _ hk) (.map (some w.heap.size)) (.map []) (by simp [anchor])
    (fun X => ⟨w.heap.size, #[], 0, by simp [upb], heap_alloc_new w _, by simp, rfl, fun _ => undef, by simp⟩)
  refine ⟨_, _, _, _, h, _, ?_, hk, X, s', .mp (r := w.heap.size) (.push rfl) (fun _ _ => by simp [upb])⟩
  simp [Instr.makeMap]

theorem ents_keys {es : List (Int × AV)} {ents : Array Go.MapEntry} (k : EntsOk P h β H es ents) : ents.toList.map (·.key) = es.map (fun p => Value.int .i64 p.1) := by
  obtain ⟨h1, us, h2⟩ := k
  apply List.ext_getElem?
  intro j
  rw [List.getElem?_map, List.getElem?_map]
  cases he : es[j]? with
  | none =>
    have : ents.toList[j]? = none := by rw [List.getElem?_eq_none_iff] at he ⊢; simpa [h1] using he
    rw [this]; rfl
  | some p =>
    obtain ⟨q, x⟩ := p
    obtain ⟨_, born, h3⟩ := h2 j q x he
    have : ents.toList[j]? = some { key := .int .i64 q, val := us j, born := born } := by simpa using h3
    rw [this]; rfl

theorem mp_blk (s : SR P E h β H w) {i : Nat} {v : Value} {es : List (Int × AV)} (hx : Rep P h β H (.mp i) v) (hi : H[i]? = some (.map es)) :
    ∃ r ents clock, v = .map (some r) ∧ β i = .map (some r) ∧ w.heap[r]? = some (.map ents clock) ∧ (es.map (·.1)).Nodup ∧ EntsOk P h β H es ents := by
  cases hx with
  | @mp _ r hl hb =>
    have hβ := hb es hi
    obtain ⟨r', ents, clock, h1, h2, h3, h4⟩ := s.blk i _ hi
    rw [hβ] at h1; cases h1
    exact ⟨r, ents, clock, rfl, hβ, h2, h3, h4⟩

theorem run_findKey_now {k : TypeId} {d : TypeDesc} {x : Value} {es : List Go.MapEntry} {r : Option (Nat × Value)} (hd : P.underlying k = some d) (e : Instr.findNow d x es 0 = some r) : (Instr.findKey k x es).run P w = .ok r w := by
  simp [Instr.findKey, run_underlying hd, e]
theorem run_checkKey_int {k : TypeId} {q : IntKind} {n : Int} {b : Bool} {d : Nat} (hd : P.underlying k = some (.int q)) : (Instr.checkKey b (d + 1) k (.int q n)).run P w = .ok () w := by
  simp [Instr.checkKey, run_underlying hd]

theorem opLookup_sound (s : SR P E h β H w) {t : TypeId} {x i : AV} {u v : Value} {ok : Bool} {k : AV → Prop} (hx : Rep P h β H x u) (hi : Rep P h β H i v) (hk0 : opLookup P t H x i ok k) :
    Yields P E h β H (Instr.lookup t u v ok) w (fun r H' => H' = H ∧ k r) := by
  obtain ⟨z, hz, hk⟩ := bnd_elim hk0
  clear hk0
  obtain ⟨kt, el, ie, zv, h1, h2, h3, h4, h5⟩ := mapT_spec hz
  split at hk
  case h_2 => exact hk.elim
  rename_i b n
  split at hk
  case h_2 => exact hk.elim
  rename_i es hb
  cases rep_int hi
  obtain ⟨r, ents, clock, rfl, _, hr, hnd, hE⟩ := mp_blk s hx hb
  have hzr : Rep P h β H z zv := toAV_rep h5
  have hrun : ∀ res, Instr.findNow (.int .i64) (.int .i64 n) ents.toList 0 = some res →
      (Instr.lookup t (.map (some r)) (.int .i64 n) ok).run P w = .ok (match res with | some (_, v) => (if ok then .tuple #[v, .bool true] else v) | none => if ok then .tuple #[zv, .bool false] else zv) w := by
    intro res he
    unfold Instr.lookup
    simp only [Sem.run_bind, run_underlying h1, Result.andThen_ok, MapKept.run_getObj_map hr, Sem.run_pure, run_checkKey_int h2, run_findKey_now h2 he]
    cases res with
    | none => cases ok <;> simp [zeroValue, typeInfo, h3, h4]
    | some p => obtain ⟨j, v⟩ := p; cases ok <;> simp
  rcases findNow_spec n es ents.toList 0 (ents_keys hE) with ⟨g1, g2, g3⟩ | ⟨j, e, x, g1, g2, g3, g4, g5⟩
  · have hr2 := hrun _ g1
    rw [g2] at hk
    cases ok with
    | false => exact Yields.pure s hr2 hzr ⟨rfl, hk⟩
    | true => exact Yields.pure s hr2 (.tup (fun j => if j = 0 then zv else .bool false) rfl (fun j x e => by
        match j, e with
        | 0, e => simp at e; simp
        | 1, e => simp at e; simp) (fun j x e => by
        match j, e with
        | 0, e => simp at e; subst e; simpa using hzr
        | 1, e => simp at e; subst e; simpa using Rep.bool false)) ⟨rfl, hk⟩
  · have hr2 := hrun _ g1
    rw [g4] at hk
    obtain ⟨_, us, hus⟩ := hE
    obtain ⟨q1, born, q2⟩ := hus j n x g3
    have : e.val = us j := by
      have : ents.toList[j]? = some { key := .int .i64 n, val := us j, born := born } := by simpa using q2
      rw [this] at g2; cases g2; rfl
    have hxr : Rep P h β H x e.val := by rw [this]; exact q1
    cases ok with
    | false => exact Yields.pure s hr2 hxr ⟨rfl, hk⟩
    | true => exact Yields.pure s hr2 (.tup (fun j => if j = 0 then e.val else .bool true) rfl (fun j x e => by
        match j, e with
        | 0, e => simp at e; simp
        | 1, e => simp at e; simp) (fun j x e => by
        match j, e with
        | 0, e => simp at e; subst e; simpa using hxr
        | 1, e => simp at e; subst e; simpa using Rep.bool true)) ⟨rfl, hk⟩
theorem EntsOk.val {es : List (Int × AV)} {ents : Array Go.MapEntry} (k : EntsOk P h β H es ents) : ents.size = es.length ∧ ∀ (j : Nat) q x, es[j]? = some (q, x) → ∃ e, ents[j]? = some e ∧ e.key = .int .i64 q ∧ Rep P h β H x e.val := by
  obtain ⟨h1, us, h2⟩ := k
  refine ⟨h1, fun j q x e => ?_⟩
  obtain ⟨h3, born, h4⟩ := h2 j q x e
  exact ⟨_, h4, rfl, h3⟩
theorem EntsOk.of {es : List (Int × AV)} {ents : Array Go.MapEntry} (h1 : ents.size = es.length) (h2 : ∀ (j : Nat) q x, es[j]? = some (q, x) → ∃ e, ents[j]? = some e ∧ e.key = .int .i64 q ∧ Rep P h β H x e.val) : EntsOk P h β H es ents := by
  refine ⟨h1, fun j => match ents[j]? with | some e => e.val | none => undef, fun j q x e => ?_⟩
  obtain ⟨e', h3, h4, h5⟩ := h2 j q x e
  refine ⟨by simp only [h3]; exact h5, e'.born, ?_⟩
  simp only [h3]; cases e'; simp only at h4; subst h4; rfl

/-- What a part of an operation comes to that yields nothing. -/
theorem opMapUpdate_run (s : SR P E h β H w) {t : TypeId} {x i r : AV} {u v y : Value} {k : AV → List Blk → Prop} (hx : Rep P h β H x u) (hi : Rep P h β H i v) (hr : Rep P h β H r y) (hk0 : opMapUpdate P t H x i r k) :
    ∃ w' H' h' β', (Instr.mapUpdate t u v y).run P w = .ok () w' ∧ k (.tup []) H' ∧ Ext h β H h' β' H' ∧ SR P E h' β' H' w' := by
  obtain ⟨z, hz, hk⟩ := bnd_elim hk0
  clear hk0
  obtain ⟨kt, el, ie, zv, h1, h2, h3, h4, h5⟩ := mapT_spec hz
  split at hk
  case h_2 => exact hk.elim
  rename_i b n
  split at hk
  case h_2 => exact hk.elim
  rename_i es hb
  cases rep_int hi
  obtain ⟨rr, ents, clock, rfl, hβ, hrr, hnd, hE⟩ := mp_blk s hx hb
  have hlt : rr < w.heap.size := (Array.getElem?_eq_some_iff.1 hrr).1
  have hbo : blkOf β H b = some rr := by simp only [blkOf, hb, hβ]; rfl
  have hnd' := (mput_keys n r es hnd).1
  obtain ⟨q1, q2⟩ := hE.val
  have go : ∀ ents' clock', (Instr.mapUpdate t (.map (some rr)) (.int .i64 n) y).run P w = .ok () (w.putObj rr (.map ents' clock')) →
      (∀ h' β' H', Ext h β H h' β' H' → EntsOk P h' β' H' (mput n r es) ents') → ∃ w' H' h' β', (Instr.mapUpdate t (.map (some rr)) (.int .i64 n) y).run P w = .ok () w' ∧ k (.tup []) H' ∧ Ext h β H h' β' H' ∧ SR P E h' β' H' w' := by
    intro ents' clock' hrun hents
    obtain ⟨s', X⟩ := s.modify (β' := β) (w' := w.putObj rr (.map ents' clock')) (x' := .map (mput n r es)) hb (fun _ _ => rfl) (.inr ⟨_, rfl, rfl⟩) s.env
      (fun q _ hn => World.putObj_heap_other (fun e => hn (by rw [hbo, e]))) (fun b0 e => .inl (by rw [hbo]; rw [hβ] at e; exact e))
      (fun X => ⟨rr, ents', clock', hβ, World.putObj_heap_same hlt, hnd', hents _ _ _ X⟩)
    exact ⟨_, _, _, _, hrun, hk, X, s'⟩
  rcases findNow_spec n es ents.toList 0 (ents_keys hE) with ⟨g1, g2, g3⟩ | ⟨j, e, x0, g1, g2, g3, g4, g5⟩
  · refine go (ents.push { key := .int .i64 n, val := y, born := clock }) (clock + 1) ?_ ?_
    · unfold Instr.mapUpdate
      simp [Sem.run_bind, run_underlying h1, MapKept.run_getObj_map hrr, run_checkKey_int h2, run_findKey_now h2 g1, MapKept.run_setObj_map _ hrr, World.putObj]
    · intro h' β' H' X
      rw [g3]
      refine .of (by simp [q1]) fun j q x e => ?_
      rcases Nat.lt_or_ge j es.length with hj | hj
      · rw [List.getElem?_append_left hj] at e
        obtain ⟨e', p1, p2, p3⟩ := q2 j q x e
        exact ⟨e', by rw [Array.getElem?_push]; rw [if_neg (by omega)]; exact p1, p2, X.rep p3⟩
      · rw [List.getElem?_append_right hj] at e
        have hj' : j = es.length := by have := (List.getElem?_eq_some_iff.1 e).1; simp at this; omega
        subst hj'; simp at e; obtain ⟨rfl, rfl⟩ := e
        exact ⟨{ key := .int .i64 n, val := y, born := clock }, by rw [Array.getElem?_push]; rw [if_pos (by omega)], rfl, X.rep hr⟩
  · rw [Nat.zero_add] at g1
    have g2' : ents[j]? = some e := by simpa using g2
    have hkey : e.key = .int .i64 n := by
      obtain ⟨e', p1, p2, _⟩ := q2 j n x0 g3
      rw [g2'] at p1; cases p1; exact p2
    refine go (ents.modify j fun e => { e with key := .int .i64 n, val := y }) clock ?_ ?_
    · unfold Instr.mapUpdate
      simp [Sem.run_bind, run_underlying h1, MapKept.run_getObj_map hrr, run_checkKey_int h2, run_findKey_now h2 g1, g2', hkey, Instr.keyThatStays, Instr.sameBits, MapKept.run_setObj_map _ hrr, World.putObj]
    · intro h' β' H' X
      rw [g5]
      refine .of (by simp [q1]) fun m q x em => ?_
      by_cases hm : j = m
      · subst hm
        rw [List.getElem?_set_self (List.getElem?_eq_some_iff.1 g3).1] at em
        cases em
        exact ⟨{ e with key := .int .i64 n, val := y }, by rw [Array.getElem?_modify]; simp [g2'], rfl, X.rep hr⟩
      · rw [List.getElem?_set_ne hm] at em
        obtain ⟨e', p1, p2, p3⟩ := q2 m q x em
        exact ⟨e', by rw [Array.getElem?_modify, if_neg hm]; exact p1, p2, X.rep p3⟩
end
end GA
