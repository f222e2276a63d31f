/- Stores. -/
import Derived.Test.YtlbdomhfcghjdaaAbs4
namespace GA
open Go Go.RowKit

theorem splice_get {c cs : List AV} {o : Nat} (hl : o + cs.length ≤ c.length) (j : Nat) : (splice c o cs)[j]? = if j < o then c[j]? else if j < o + cs.length then cs[j - o]? else c[j]? := by
  unfold splice
  by_cases h1 : j < o
  · rw [if_pos h1, List.append_assoc, List.getElem?_append_left (by simp; omega), List.getElem?_take, if_pos h1]
  · rw [if_neg h1]
    by_cases h2 : j < o + cs.length
    · rw [if_pos h2, List.append_assoc, List.getElem?_append_right (by simp; omega)]
      rw [List.getElem?_append_left (by simp; omega)]
      congr 1; simp; omega
    · rw [if_neg h2, List.getElem?_append_right (by simp; omega), List.getElem?_drop]
      congr 1; simp; omega
theorem splice_length {c cs : List AV} {o : Nat} (hl : o + cs.length ≤ c.length) : (splice c o cs).length = c.length := by
  unfold splice; simp; omega

theorem flat_length {w : Nat} : ∀ {els : List AV}, (∀ e ∈ els, e.cells.length = w) → (flat els).length = els.length * w
  | [], _ => by simp [flat]
  | a :: l, hw => by
    have := flat_length (els := l) (fun e he => hw e (by simp [he]))
    simp only [flat, List.flatMap_cons, List.length_append, List.length_cons] at this ⊢
    rw [hw a (by simp), this, Nat.succ_mul]; omega

theorem flat_set {w : Nat} : ∀ {els : List AV}, (∀ e ∈ els, e.cells.length = w) → ∀ (i : Nat) x, i < els.length → x.cells.length = w → flat (els.set i x) = splice (flat els) (i * w) x.cells
  | [], _, i, x, h1, _ => by simp at h1
  | a :: l, hw, i, x, h1, h2 => by
    have ha : a.cells.length = w := hw a (by simp)
    cases i with
    | zero => simp only [List.set_cons_zero, flat, List.flatMap_cons, splice, Nat.zero_mul, List.take_zero, List.nil_append, h2, Nat.zero_add]
              rw [List.drop_append_of_le_length (by omega), List.drop_of_length_le (l := a.cells) (by omega), List.nil_append]
    | succ i =>
      have ih := flat_set (w := w) (els := l) (fun e he => hw e (by simp [he])) i x (by simpa using h1) h2
      simp only [List.set_cons_succ, flat, List.flatMap_cons] at ih ⊢
      rw [ih]
      simp only [splice, h2]
      have hs : (i + 1) * w = w + i * w := by rw [Nat.succ_mul]; omega
      rw [hs, List.take_append, List.take_of_length_le (l := a.cells) (by omega), ha, show w + i * w - w = i * w by omega,
        List.drop_append, List.drop_of_length_le (l := a.cells) (by omega), ha, show w + i * w + w - w = i * w + w by omega]
      simp

theorem splice_splice {c cs d : List AV} {o p : Nat} (hl : p + d.length ≤ c.length) (hd : ∀ j, j < d.length → d[j]? = c[p + j]?) (ho : o + cs.length ≤ d.length) :
    splice c p (splice d o cs) = splice c (p + o) cs := by
  apply List.ext_getElem?
  intro j
  have h1 : (splice d o cs).length = d.length := splice_length ho
  have q1 := splice_get (c := c) (cs := splice d o cs) (o := p) (by omega) j
  have q2 := splice_get (c := c) (cs := cs) (o := p + o) (by omega) j
  rw [q1, q2, h1]
  by_cases a1 : j < p
  · rw [if_pos a1, if_pos (by omega)]
  · rw [if_neg a1]
    by_cases a2 : j < p + d.length
    · rw [if_pos a2, splice_get ho (j - p)]
      by_cases a3 : j - p < o
      · have a5 : j < p + o := by omega
        simp only [a3, a5, if_true]; rw [hd _ (by omega)]; congr 1; omega
      · have a5 : ¬ j < p + o := by omega
        by_cases a4 : j - p < o + cs.length
        · have a6 : j < p + o + cs.length := by omega
          simp only [a3, a5, a4, a6, if_true, if_false]; congr 1; omega
        · have a6 : ¬ j < p + o + cs.length := by omega
          simp only [a3, a5, a4, a6, if_false]; rw [hd _ (by omega)]; congr 1; omega
    · rw [if_neg a2, if_neg (by omega), if_neg (by omega)]

section
variable {P : Program} {E : Env} {h : Nat → Option Obj} {β : Nat → Value} {H : List Blk} {w : World}

theorem CellsOk.splice {c cs : List AV} {o : Nat} {cur : Array Value} {vs : List Value} (hc : CellsOk P h β H c cur) (hs : c.length ≤ cur.size) (hl : o + cs.length ≤ c.length) (hvl : vs.length = cs.length)
    (us : Nat → Value) (h1 : ∀ (j : Nat) x, cs[j]? = some x → vs[j]? = some (us j)) (h2 : ∀ (j : Nat) x, cs[j]? = some x → Rep P h β H x (us j)) :
    CellsOk P h β H (GA.splice c o cs) (cur.toList.take o ++ vs ++ cur.toList.drop (o + vs.length)).toArray := by
  obtain ⟨vs0, a1, a2⟩ := hc
  have hget : ∀ j, j < c.length → (cur.toList.take o ++ vs ++ cur.toList.drop (o + vs.length)).toArray[j]? = if j < o then cur[j]? else if j < o + cs.length then vs[j - o]? else cur[j]? := by
    intro j hj
    simp only [List.getElem?_toArray]
    by_cases b1 : j < o
    · rw [if_pos b1, List.append_assoc, List.getElem?_append_left (by simp; omega), List.getElem?_take, if_pos b1]; simp
    · rw [if_neg b1]
      by_cases b2 : j < o + cs.length
      · rw [if_pos b2, List.append_assoc, List.getElem?_append_right (by simp; omega), List.getElem?_append_left (by simp; omega)]
        congr 1; simp; omega
      · rw [if_neg b2, List.getElem?_append_right (by simp; omega), List.getElem?_drop, hvl, Array.getElem?_toList]
        congr 1; simp; omega
  refine ⟨fun j => if j < o then vs0 j else if j < o + cs.length then us (j - o) else vs0 j, fun j x e => ?_, fun j x e => ?_⟩
  · have hj : j < c.length := by have := (List.getElem?_eq_some_iff.1 e).1; rwa [splice_length hl] at this
    rw [hget j hj]
    rw [splice_get hl] at e
    by_cases b1 : j < o
    · simp only [b1, if_true] at e ⊢; exact a1 j x e
    · simp only [b1, if_false] at e ⊢
      by_cases b2 : j < o + cs.length
      · simp only [b2, if_true] at e ⊢; exact h1 _ x e
      · simp only [b2, if_false] at e ⊢; exact a1 j x e
  · rw [splice_get hl] at e
    by_cases b1 : j < o
    · simp only [b1, if_true] at e ⊢; exact a2 j x e
    · simp only [b1, if_false] at e ⊢
      by_cases b2 : j < o + cs.length
      · simp only [b2, if_true] at e ⊢; exact h2 _ x e
      · simp only [b2, if_false] at e ⊢; exact a2 j x e

def YieldsU (P : Program) (E : Env) (h : Nat → Option Obj) (β : Nat → Value) (H : List Blk) (s : Sem Unit) (w : World) (k : AV → List Blk → Prop) : Prop :=
  ∃ w' H' h' β', s.run P w = .ok () w' ∧ k (.tup []) H' ∧ Ext h β H h' β' H' ∧ SR P E h' β' H' w'

theorem setRow_env (w : World) (b : Nat) (c : Array Value) : World.env (w.setRow b c) = World.env w := rfl

theorem mem_splice {c cs : List AV} {o : Nat} {x : AV} (hx : x ∈ splice c o cs) : x ∈ c ∨ x ∈ cs := by
  unfold splice at hx
  rcases List.mem_append.1 hx with h1 | h1
  · rcases List.mem_append.1 h1 with h1 | h1
    · exact .inl (List.mem_of_mem_take h1)
    · exact .inr h1
  · exact .inl (List.mem_of_mem_drop h1)

theorem opStore_sound (s : SR P E h β H w) {t : TypeId} {p r : AV} {pv v : Value} (hp : Rep P h β H p pv) (hr : Rep P h β H r v) {k : AV → List Blk → Prop} (hk : opStore P t H p r k) :
    YieldsU P E h β H (Instr.storeAt t pv v) w k := by
  obtain ⟨ti, h1, ⟨hlen, htup⟩, hk⟩ := bnd_elim hk
  obtain ⟨H', h2, hk'⟩ := bnd_elim hk
  clear hk
  obtain ⟨i, d, h3, h4, rfl⟩ := tyK_spec h1
  obtain ⟨g1, g2, g3, us, g4, g5⟩ := cells_of s hr htup
  have hsz : v.cells.size = i.size := by rw [g1]; exact hlen
  have run : ∀ (b o : Nat) (c : Array Value) (tt : TypeId), w.heap[b]? = some (.cells c tt (0, 0)) → o + r.cells.length ≤ c.size →
      (Instr.storeAt t (.pointer (some ⟨b, o, none⟩)) v).run P w = .ok () (w.setRow b (c.toList.take o ++ v.cells.toList ++ c.toList.drop (o + v.cells.toList.length)).toArray) := by
    intro b o c tt hb hle
    have := run_storeCells_at P b o tt v.cells.toList 0 c w hb (by simp; omega) g3
    simp only [Nat.add_zero] at this
    simp [Instr.storeAt, Instr.sureAddr, storeVar, Go.sizeOf, typeInfo, h3, hsz, this]
  cases hp with
  | @ptr ii o b hi hb =>
    simp only [setAt] at h2
    split at h2
    · rename_i cs e1
      split at h2 <;> cases h2
      rename_i hle
      obtain ⟨b', c, tt, e2, e3, e4, e5, e6⟩ := s.blk ii _ e1
      have e7 := hb cs e1
      rw [e2] at e7; cases e7
      have hbo : blkOf β H ii = some b := by simp [blkOf, e1, e2, anchor]
      obtain ⟨s', X⟩ := s.modify (β' := β) (w' := w.setRow b (c.toList.take o ++ v.cells.toList ++ c.toList.drop (o + v.cells.toList.length)).toArray) (x' := .cells (splice cs o r.cells)) e1 (fun _ _ => rfl)
        (.inr ⟨_, rfl, rfl⟩) ((setRow_env _ _ _).trans s.env) (fun k _ hne => setRow_other _ _ _ _ (fun e => hne (by rw [hbo, e])))
        (fun b0 e => .inl (by rw [hbo]; rw [e2] at e; exact e))
        (fun X => ⟨b, _, tt, e2, setRow_heap w b c _ tt _ e3, by
          rw [splice_length hle, ← e4]
          simp only [List.size_toArray, List.length_append, List.length_take, List.length_drop, Array.length_toList]; omega,
          fun x hx => by rcases mem_splice hx with hx | hx; exact e5 x hx; exact g2 x hx,
          CellsOk.splice (e6.ext X) (by omega) hle (by simpa using g1) us (fun j x e => by simpa using g4 j x e) (fun j x e => X.rep (g5 j x e))⟩)
      exact ⟨_, _, h, β, run b o c tt e3 (by omega), hk', X, s'⟩
    · cases h2
  | @gp ii n e o b q hi hv =>
    simp only [setAt] at h2
    split at h2
    · rename_i te nl els e1
      split at h2
      · rename_i hne
        obtain ⟨q1, q2⟩ := hv _ _ _ e1
        obtain ⟨q4, len, cap, q3⟩ := q2 hne.1.symm
        subst q4
        rcases s.blk ii _ e1 with ⟨_, _, h7⟩ | ⟨_, hnil, _⟩ | ⟨hnl, b', cap', c, h7, h8, h9, h10, h11, h12, h13, h14, h15, h16⟩
        · rw [h7] at q3; cases q3
        · subst hnil; simp at hne; omega
        · rw [h7] at q3; cases q3
          have hlt : e < els.length := by omega
          have hmem : els.getD e default ∈ els := by rw [List.getD_eq_getElem?_getD, List.getElem?_eq_getElem hlt]; simp
          have hget : els[e]? = some (els.getD e default) := by rw [List.getD_eq_getElem?_getD, List.getElem?_eq_getElem hlt]; simp
          have hfl := flat_length h14
          have hbo : blkOf β H ii = some b := by simp [blkOf, e1, h7, anchor]; omega
          have hmul : e * sz P te + sz P te ≤ els.length * sz P te := by rw [← Nat.succ_mul]; exact Nat.mul_le_mul_right _ hlt
          have hcap2 : els.length * sz P te ≤ c.size := by rw [h12]; exact Nat.mul_le_mul_right _ h10
          -- one way for both forms: the new row
          have go : ∀ (x' : AV), x'.cells.length = sz P te → o + r.cells.length ≤ sz P te → (∀ y ∈ x'.cells, y.one = true) → flat (els.set e x') = splice (flat els) (e * sz P te + o) r.cells → k (.tup []) (H.set ii (.grow te nl (els.set e x'))) →
              YieldsU P E h β H (Instr.storeAt t (.pointer (some ⟨b, e * sz P te + o, none⟩)) v) w k := by
            intro x' hx1 hx2 hx3 hx4 hk
            obtain ⟨s', X⟩ := s.modify (β' := β) (w' := w.setRow b (c.toList.take (e * sz P te + o) ++ v.cells.toList ++ c.toList.drop (e * sz P te + o + v.cells.toList.length)).toArray) (x' := .grow te nl (els.set e x')) e1 (fun _ _ => rfl)
              (.inr ⟨_, _, rfl, by simp, fun _ => rfl⟩) ((setRow_env _ _ _).trans s.env) (fun k _ hne => setRow_other _ _ _ _ (fun e => hne (by rw [hbo, e])))
              (fun b0 e => .inl (by rw [hbo]; rw [h7] at e; simp [anchor] at e; rw [e.2]))
              (fun X => .inr (.inr ⟨hnl, b, cap, _, by rw [h7]; simp, h8, setRow_heap w b c _ te _ h9, by simpa using h10, h11, by
                rw [← h12]
                simp only [List.size_toArray, List.length_append, List.length_take, List.length_drop, Array.length_toList]; omega, h13,
                fun y hy => by rcases List.mem_or_eq_of_mem_set hy with hy | rfl; exact h14 y hy; exact hx1,
                fun y hy => by rw [hx4] at hy; rcases mem_splice hy with hy | hy; exact h15 y hy; exact g2 y hy,
                by rw [hx4]; exact CellsOk.splice (h16.ext X) (by omega) (by omega) (by simpa using g1) us (fun j x e => by simpa using g4 j x e) (fun j x e => X.rep (g5 j x e))⟩))
            exact ⟨_, _, h, β, run b (e * sz P te + o) c te h9 (by omega), hk, X, s'⟩
          split at h2
          · cases h2
            rename_i hfull
            obtain ⟨rfl, hfull⟩ := hfull
            exact go r hfull (by omega) g2 (by rw [Nat.add_zero]; exact flat_set h14 e r hlt hfull) hk'
          · split at h2 <;> cases h2
            rename_i hpart
            have hew : (els.getD e default).cells.length = sz P te := h14 _ hmem
            have hle : o + r.cells.length ≤ (els.getD e default).cells.length := by rw [hew]; exact hpart.1
            refine go (.agg (splice (els.getD e default).cells o r.cells)) (by show (splice _ _ _).length = _; rw [splice_length hle]; exact hew) hpart.1
              (fun y hy => by rcases mem_splice hy with hy | hy; exact cells_one_of hmem h15 y hy; exact g2 y hy) ?_ hk'
            rw [flat_set h14 e _ hlt (by show (splice _ _ _).length = _; rw [splice_length hle]; exact hew)]
            refine splice_splice (by omega) (fun j hj => ?_) hle
            exact ((flat_get h14 e j _ _ hget (List.getElem?_eq_getElem hj)).trans (List.getElem?_eq_getElem hj).symm).symm
      · cases h2
    · cases h2
  | _ => simp [setAt] at h2
end
end GA
