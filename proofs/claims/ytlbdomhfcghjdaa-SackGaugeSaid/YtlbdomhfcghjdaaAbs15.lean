/- What is computed is what the operations come to. -/
import Derived.Test.YtlbdomhfcghjdaaAbs14
namespace GA
open Go Go.RowKit

section
variable {P : Program} {T : Tab} {N : Nat} {own : List Nat} {σ : St} {H : List Blk} {k : AV → Prop} {t : TypeId}

theorem bnd_mono {α : Type} {o : Option α} {k k' : α → Prop} (h : bnd o k) (hk : ∀ a, o = some a → k a → k' a) : bnd o k' := by
  cases o with | none => exact h.elim | some a => exact hk a rfl h

theorem xBin_sound (ok : TabOk P T) {op : BinOp} {x y : AV} (h : xBin T t op x y k) : opBinE P t op x y k := by
  unfold xBin at h
  split at h
  case h_18 | h_19 | h_20 | h_21 =>
    obtain ⟨e, h1, h2⟩ := bnd_elim h
    have := ok.get h1
    split at h2
    · rename_i hk; obtain ⟨_, _, _, h3, _⟩ := this; rw [hk] at h3
      first | exact ⟨h3, h2⟩ | exact ⟨h3.2.2.1, h2⟩
    · exact h2.elim
  case h_22 | h_23 =>
    obtain ⟨e, h1, h2⟩ := bnd_elim h
    obtain ⟨n, h3, h4⟩ := bnd_elim h2
    obtain ⟨as, bs, g1, g2, g3, g4, g5⟩ := h4.o
    exact ⟨as, bs, g1, g2, g3, by rw [← g4]; exact (ok.get h1).2.2.2.2 n h3, g5⟩
  case h_24 => exact h.elim
  case h_10 | h_11 => exact ⟨h.l, by first | exact h.r.o | exact h.r⟩
  all_goals
    obtain ⟨rfl, h2⟩ := isK_spec h
    first
      | exact ⟨rfl, h2.o⟩
      | exact ⟨rfl, h2.l, h2.r.o⟩
      | exact ⟨rfl, h2.l, h2.r⟩
      | exact ⟨rfl, h2⟩

theorem xTake_sound {e : TE} {cs : List AV} (h : xTake e cs k) : if e.ag = true then e.n ≤ cs.length ∧ k (.agg (cs.take e.n)) else bnd cs.head? k := by
  unfold xTake at h
  split at h
  · rename_i e1; rw [if_pos e1]; exact xtk_spec h
  · rename_i e1; rw [if_neg (by simp [e1])]
    split at h
    · exact h
    · exact h.elim

theorem xLoad_sound (ok : TabOk P T) {p : AV} (h : xLoad T t H p k) : opLoad P t H p k := by
  obtain ⟨e, h1, h2⟩ := bnd_elim h
  have ht := (ok.get h1).1
  unfold opLoad; rw [ht, bnd_some]
  split at h2
  · exact xTake_sound h2
  · split at h2
    · rename_i hl; rw [lget_eq] at hl
      simp only [atP, hl, bnd_some]; exact xTake_sound (xdrop_spec h2).2
    · exact h2.elim
  · split at h2
    · rename_i hl; rw [lget_eq] at hl
      obtain ⟨h3, h4, h5⟩ := h2
      simp only [atP, hl]
      rw [if_pos ⟨h3, h4⟩, bnd_some]; exact xTake_sound (xdrop_spec h5).2
    · exact h2.elim
  · exact h2.elim

theorem xStore_sound (ok : TabOk P T) {p v : AV} {k : AV → List Blk → Prop} (h : xStore T t H p v k) : opStore P t H p v k := by
  obtain ⟨e, h1, h2⟩ := bnd_elim h
  have ht := (ok.get h1).1
  obtain ⟨h3, h4⟩ := xone_spec h2
  obtain ⟨h5, h6⟩ := xn_spec h4
  unfold opStore; rw [ht, bnd_some]
  refine ⟨⟨h5, h3⟩, ?_⟩
  split at h6
  · split at h6
    · rename_i hl; rw [lget_eq] at hl
      obtain ⟨h7, h8⟩ := xspl_spec h6
      have h9 := (hset_spec h8).2
      simp only [setAt, hl]; rw [if_pos h7]; exact h9
    · exact h6.elim
  · split at h6
    · rename_i hl; rw [lget_eq] at hl
      obtain ⟨e', g1, g2⟩ := bnd_elim h6
      have hz := (ok.get g1).2.1
      simp only [setAt, hl]
      split at g2
      · rename_i hb
        rw [if_pos ⟨g2.len, g2.lt⟩, if_pos ⟨rfl, by rw [h5, hz]; exact Nat.eq_of_beq_eq_true hb⟩]
        exact (hset_spec g2.o).2
      · rename_i hno
        rw [if_pos ⟨g2.len, g2.lt⟩]
        split
        · rename_i hh; exfalso; refine hno hh.1 ?_
          rw [h5, hz] at hh; rw [hh.2]; exact Nat.beq_refl _
        · rw [if_pos ⟨by rw [hz]; exact g2.le, g2.one⟩]
          exact (hset_spec g2.o).2
    · exact h6.elim
  · exact h6.elim

theorem xBoxO_sound {v : AV} {k : AV → List Blk → Prop} (h : xBoxO v H k) : opBoxO v H k := by
  obtain ⟨h1, h2⟩ := xone_spec h
  have := hpush_spec h2
  rw [Nat.zero_add] at this
  exact ⟨h1, this⟩
theorem xAddP_sound {p : AV} {off : Nat} (h : xAddP p off k) : bnd (addP p off) k := by
  unfold xAddP at h; split at h
  · exact h
  · exact h
  · exact h
  · exact h.elim
theorem xFldP_sound {p : AV} {off : Nat} (h : xFldP p off k) : bnd (addP p off) k := by
  unfold xFldP at h; split at h
  · exact (xdrop_spec h).2
  · exact h
  · exact h
  · exact h.elim
theorem xPart_sound {cs : List AV} {ag : Bool} {off n : Nat} (h : xPart cs ag off n k) : partA cs ag off n k := by
  unfold xPart at h; unfold partA
  split at h
  · obtain ⟨h1, h2⟩ := xdrop_spec h
    obtain ⟨h3, h4⟩ := xtk_spec h2
    rw [if_pos rfl]; exact ⟨by simp at h3; omega, h4⟩
  · obtain ⟨h1, h2⟩ := xdrop_spec h
    rw [if_neg (by simp)]
    have : cs[off]? = (cs.drop off).head? := by simp
    rw [this]
    split at h2
    · rename_i e; rw [e]; exact h2
    · exact h2.elim
theorem fields_get {e : TE} {f : Nat} {x : Nat × Bool × Nat} (h : lget (fields e.k) f = some x) : ∃ fs, e.k = .st fs ∧ lget fs f = some x := by
  cases hk : e.k with
  | st fs => rw [hk] at h; exact ⟨fs, rfl, h⟩
  | _ => rw [hk] at h; simp [fields, lget] at h
theorem fld_of (ok : TabOk P T) {e : TE} {f : Nat} {x : Nat × Bool × Nat} (h1 : tget T t = some e) (h2 : lget (fields e.k) f = some x) : fldK P t f = some x := by
  obtain ⟨fs, h3, h4⟩ := fields_get h2
  obtain ⟨_, _, _, h5, _⟩ := ok.get h1
  rw [h3] at h5; exact (h5.1 f x h4).1
theorem xFieldAddr_sound (ok : TabOk P T) {p : AV} {f : Nat} (h : xFieldAddr T t p f k) : opFieldAddr P t p f k := by
  obtain ⟨e, h1, h2⟩ := bnd_elim h
  obtain ⟨x, h3, h4⟩ := bnd_elim h2
  unfold opFieldAddr; rw [fld_of ok h1 h3, bnd_some]
  split at h4
  · exact h4.elim
  · rename_i e; exact ⟨by omega, xFldP_sound h4⟩
theorem xField_sound (ok : TabOk P T) {x : AV} {f : Nat} (h : xField T t x f k) : opField P t x f k := by
  unfold xField at h; split at h
  · obtain ⟨e, h1, h2⟩ := bnd_elim h
    obtain ⟨x, h3, h4⟩ := bnd_elim h2
    unfold opField; simp only; rw [fld_of ok h1 h3, bnd_some]; exact xPart_sound h4
  · exact h.elim
theorem xIndex_sound (ok : TabOk P T) {x i : AV} (h : xIndex T t x i k) : opIndex P t x i k := by
  unfold xIndex at h; split at h
  · obtain ⟨e, h1, h2⟩ := bnd_elim h
    obtain ⟨_, _, _, h5, _⟩ := ok.get h1
    split at h2
    · rename_i hk; rw [hk] at h5
      unfold opIndex; simp only; rw [h5.1, bnd_some]
      exact ⟨h2.l.1, h2.l.2, xPart_sound h2.r⟩
    · exact h2.elim
  · exact h.elim
theorem xIndexAddr_sound (ok : TabOk P T) {x i : AV} (h : xIndexAddr T t H x i k) : opIndexAddr P t H x i k := by
  unfold xIndexAddr at h; split at h
  · obtain ⟨e, h1, h2⟩ := bnd_elim h
    obtain ⟨_, _, _, h5, _⟩ := ok.get h1
    unfold opIndexAddr
    split at h2
    · rename_i hk; rw [hk] at h5; simp only; rw [h5.2.1, bnd_some]; exact ⟨h2.lo, h2.hi, h2.wd, h2.o⟩
    · rename_i hk; rw [hk] at h5; simp only; rw [h5.2.1, bnd_some]
      split at h2
      · rename_i hl; rw [lget_eq] at hl
        obtain ⟨e', g1, g2⟩ := bnd_elim h2
        rw [hl]; exact ⟨g2.l.1, g2.l.2.1.trans (ok.get g1).2.1.symm, g2.l.2.2.1, g2.l.2.2.2, g2.r⟩
      · exact h2.elim
    · rename_i hk; rw [hk] at h5; simp only; rw [h5.1, bnd_some]; exact ⟨h2.lo, h2.hi, xAddP_sound h2.o⟩
    · rename_i hk; rw [hk] at h5; simp only; rw [h5.1, bnd_some]; exact ⟨h2.lo, h2.hi, xAddP_sound h2.o⟩
    · rename_i hk; rw [hk] at h5; simp only; rw [h5.1, bnd_some]; exact ⟨h2.lo, h2.hi, xAddP_sound h2.o⟩
    · exact h2.elim
  · exact h.elim

theorem place_of (ok : TabOk P T) {e : TE} {i : Nat} {x : Nat × Nat} (h1 : tget T t = some e) (h2 : place e.k i = some x) : placeK P t i = some x := by
  obtain ⟨_, _, _, h5, _⟩ := ok.get h1
  unfold place at h2
  split at h2
  · rename_i hk; rw [hk] at h5
    split at h2
    · rename_i hl; cases h2; exact (h5.1 _ _ hl).2
    · cases h2
  · rename_i hk; rw [hk] at h5; cases h2; exact h5.2.2 i
  · cases h2
theorem xFill_sound (ok : TabOk P T) {e : TE} (h1 : tget T t = some e) : ∀ {ps : List (Nat × AV)} {cells : List AV} {k : List AV → Prop}, xFill e.k cells ps k → bnd (fillA (placeK P t) cells ps) k
  | [], _, _, h => h
  | (i, v) :: rest, cells, k, h => by
    obtain ⟨x, h2, h3⟩ := bnd_elim h
    obtain ⟨h4, h5⟩ := xone_spec h3
    obtain ⟨h6, h7⟩ := xn_spec h5
    obtain ⟨h8, h9⟩ := xspl_spec h7
    simp only [fillA, place_of ok h1 h2]
    rw [if_pos ⟨h6, by rw [← h6]; exact h8, h4⟩]
    exact xFill_sound ok h1 h9
theorem xBuild_sound (ok : TabOk P T) {ps : List (Nat × AV)} (h : xBuild T t ps k) : opBuild P t ps k := by
  obtain ⟨e, h1, h2⟩ := bnd_elim h
  obtain ⟨_, _, hz, h5, _⟩ := ok.get h1
  split at h2
  · rename_i zc h3 h4
    refine ⟨?_, ?_⟩
    · cases hk : e.k <;> rw [hk] at h4 h5 <;> first | exact h5.2 | exact h5.2.1 | (simp [isAgK] at h4; done)
    · rw [hz _ h3, bnd_some]; exact xFill_sound ok h1 h2
  · exact h2.elim

variable {K : AV → List Blk → Prop}
theorem xBuildSlice_sound (ok : TabOk P T) {o : Bool} {len : Nat} {ps : List (Nat × AV)} (h : xBuildSlice T o t len ps H K) : opBuildSlice P o t len ps H K := by
  obtain ⟨e, h1, h2⟩ := bnd_elim h
  obtain ⟨_, _, _, h5, _⟩ := ok.get h1
  split at h2
  · rename_i hk; rw [hk] at h5
    obtain ⟨els, h3, h4⟩ := bnd_elim h2
    unfold opBuildSlice; rw [h5.1, bnd_some, h3, bnd_some]
    refine ⟨h4.l, ?_⟩
    have h6 := h4.r
    split at h6
    · rw [if_pos rfl]; have := hpush_spec h6; rw [Nat.zero_add] at this; exact this
    · rw [if_neg (by simp)]
      split at h6
      · exact h6
      · exact h6
  · exact h2.elim
theorem xMakeSlice_sound (ok : TabOk P T) {l c : AV} (h : xMakeSlice T t l c H K) : opMakeSlice P t l c H K := by
  unfold xMakeSlice at h; split at h
  · obtain ⟨e, h1, h2⟩ := bnd_elim h
    obtain ⟨_, _, _, h5, _⟩ := ok.get h1
    split at h2
    · rename_i hk; rw [hk] at h5
      unfold opMakeSlice; simp only; rw [h5.1, bnd_some, h5.2.2.2, bnd_some]
      have := hpush_spec h2.r; rw [Nat.zero_add] at this
      exact ⟨⟨h2.l.1, h2.l.2.1, h2.l.2.2.1, h2.l.2.2.2⟩, this⟩
    · exact h2.elim
  · exact h.elim
theorem xEls_sound {x : AV} {k : List AV → Prop} (h : xEls H x k) : bnd (elsOf H x) k := by
  unfold xEls at h; split at h
  · exact h
  · exact h
  · split at h
    · rename_i hl; rw [lget_eq] at hl
      simp only [elsOf, hl]; rw [if_pos h.l]; exact h.r
    · exact h.elim
  · exact h.elim
theorem xAppend_sound (ok : TabOk P T) {s x : AV} (h : xAppend T t s x H K) : opAppend P t s x H K := by
  obtain ⟨e, h1, h2⟩ := bnd_elim h
  obtain ⟨_, _, _, h5, _⟩ := ok.get h1
  split at h2
  · rename_i hk; rw [hk] at h5
    unfold opAppend; rw [h5.1, bnd_some]
    refine bnd_mono (xEls_sound h2) fun new _ h3 => ⟨h3.l, ?_⟩
    have h4 := h3.r
    split at h4
    · have := hpush_spec h4.r; rw [Nat.zero_add] at this; exact ⟨h4.l, this⟩
    · have := hpush_spec h4.r; rw [Nat.zero_add] at this; exact ⟨h4.l, this⟩
    · split at h4
      · rename_i hl; rw [lget_eq] at hl
        simp only [hl]; exact ⟨⟨h4.l.1, h4.l.2.1, h4.l.2.2.1, h4.l.2.2.2⟩, (hset_spec h4.r).2⟩
      · exact h4.elim
    · exact h4.elim
  · exact h2.elim
theorem xSlice_sound (ok : TabOk P T) {x : AV} {lo hi mx : Option AV} (h : xSlice T t x lo hi mx k) : opSlice P t x lo hi mx k := by
  unfold xSlice at h; split at h
  · obtain ⟨e, h1, h2⟩ := bnd_elim h
    obtain ⟨_, _, _, h5, _⟩ := ok.get h1
    split at h2
    · rename_i hk; rw [hk] at h5
      unfold opSlice; simp only; rw [h5.2.1, bnd_some]
      refine bnd_mono h2 fun l _ h3 => bnd_mono h3 fun r _ h4 => ?_
      split at h4
      · exact ⟨h4.l, h4.r⟩
      · exact bnd_mono h4 fun m _ h5 => ⟨h5.l, h5.r⟩
    · exact h2.elim
  · obtain ⟨e, h1, h2⟩ := bnd_elim h
    obtain ⟨_, _, _, h5, _⟩ := ok.get h1
    split at h2
    · rename_i hk; rw [hk] at h5
      unfold opSlice; simp only; rw [h5.1, bnd_some]
      obtain ⟨l, e1, h3⟩ := bnd_elim h2
      obtain ⟨r, e2, h4⟩ := bnd_elim h3
      split at h4
      · show (false = false ∧ 1 = 1 ∧ _ ≤ _ ∧ _)
        refine ⟨rfl, rfl, h4.l.1, ?_⟩
        rw [e1, bnd_some, e2, bnd_some]
        exact ⟨rfl, h4.l.2, h4.r⟩
      · exact h4.elim
    · exact h2.elim
  · exact h.elim
theorem xUn_sound {op : UnOp} {x : AV} (h : xUn op x k) : opUn op x k := by
  unfold xUn at h; split at h
  · exact h
  · exact h.o
  · exact h
  · exact h.elim
theorem xConv_sound (ok : TabOk P T) {s d : TypeId} {x : AV} (h : xConv T s d x k) : opConv P s d x k := by
  unfold xConv at h; split at h
  · obtain ⟨e, h1, h2⟩ := bnd_elim h
    obtain ⟨e', h3, h4⟩ := bnd_elim h2
    obtain ⟨i, u, _, h6, _⟩ := tyK_spec (ok.get h1).1
    obtain ⟨_, _, _, h5, _⟩ := ok.get h3
    split at h4
    · rename_i hk; rw [hk] at h5
      exact ⟨by rw [h6]; rfl, by rw [h5]; exact h4.o⟩
    · exact h4.elim
  · exact h.elim
theorem xExt_sound {x : AV} {i : Nat} (h : xExt x i k) : opExt x i k := by
  unfold xExt at h; split at h
  · rw [lget_eq] at h; exact h
  · exact h.elim
theorem xLen_sound (ok : TabOk P T) {x : AV} (h : xLen T t H x k) : opLen P t H x k := by
  obtain ⟨e, h1, h2⟩ := bnd_elim h
  obtain ⟨_, _, _, h5, _⟩ := ok.get h1
  split at h2
  · rename_i hk; rw [hk] at h5; exact ⟨h5.2.2.1, h2⟩
  · rename_i hk; rw [hk] at h5; exact ⟨h5.2.2.1, h2⟩
  · rename_i hk; rw [hk] at h5
    split at h2
    · rename_i hl; rw [lget_eq] at hl
      exact ⟨h5.2.2.1, by rw [hl]; exact h2.l, h2.r⟩
    · exact h2.elim
  · exact h2.elim
theorem xBuiltin_sound (ok : TabOk P T) {b : Builtin} {ts : List TypeId} {rs : List AV} (h : xBuiltin T b ts rs H K) : opBuiltin P b ts rs H K := by
  unfold xBuiltin at h; split at h
  · exact xLen_sound ok h
  · split at h
    · rename_i e; exact ⟨Nat.eq_of_beq_eq_true e, xAppend_sound ok h⟩
    · exact h.elim
  · rename_i q a q' b
    show K (.int q (if b < a then b else a)) H
    rwa [show (if b < a then b else a) = min a b by omega]
  · rename_i q a q' b
    show K (.int q (if b > a then b else a)) H
    rwa [show (if b > a then b else a) = max a b by omega]
  · exact h.elim
theorem xCallV_sound {fv : AV} {rs : List AV} : xCallV P fv rs H K → (match fv with | .fn g caps => ACall P g (rs ++ caps) H K | .yld i => AYield P i rs H K | _ => False) := by
  intro h; unfold xCallV at h; split at h
  · exact h.o
  · exact h.o
  · exact h.elim

theorem xLookup_sound (ok : TabOk P T) {x i : AV} {c : Bool} (h : xLookup T t H x i c k) : opLookup P t H x i c k := by
  obtain ⟨e, h1, h2⟩ := bnd_elim h
  obtain ⟨_, _, _, h5, _⟩ := ok.get h1
  split at h2
  · rename_i hk; rw [hk] at h5
    unfold opLookup; rw [h5, bnd_some]
    split at h2
    · rename_i hl; rw [lget_eq] at hl; simp only [hl]; exact h2.o
    · exact h2.elim
  · exact h2.elim
theorem xMapUpdate_sound (ok : TabOk P T) {x i v : AV} (h : xMapUpdate T t H x i v K) : opMapUpdate P t H x i v K := by
  obtain ⟨e, h1, h2⟩ := bnd_elim h
  obtain ⟨_, _, _, h5, _⟩ := ok.get h1
  split at h2
  · rename_i hk; rw [hk] at h5
    unfold opMapUpdate; rw [h5, bnd_some]
    split at h2
    · rename_i hl; rw [lget_eq] at hl; simp only [hl]; exact (hset_spec h2).2
    · exact h2.elim
  · exact h2.elim
theorem XOp.sound (ok : TabOk P T) {d : Option Nat} {op : Op} (h : XOp P T own d σ H K op) : AOp P own d σ H K op := by
  unfold XOp at h
  split at h
  case h_3 =>
    refine bnd_mono h fun r _ h1 => ?_
    split at h1
    · exact ⟨h1.t, h1.f⟩
    · exact h1.elim
  case h_4 =>
    obtain ⟨e, h1, h2⟩ := bnd_elim h
    split at h2
    · rename_i hz; show bnd (zeroA P _) _; rw [(ok.get h1).2.2.1 _ hz, bnd_some]; exact xBoxO_sound h2
    · exact h2.elim
  case h_5 =>
    refine bnd_mono h fun r _ h1 => ?_
    split at h1
    · rename_i e; rw [if_pos e]; exact xBoxO_sound h1
    · rename_i e; rw [if_neg (by rw [e]; simp)]; exact xone_spec h1
  case h_6 => exact bnd_mono h fun _ _ h1 => xBuild_sound ok h1
  case h_7 => exact bnd_mono h fun _ _ h1 => xBuildSlice_sound ok h1
  case h_8 => exact bnd_mono h fun _ _ h1 => xLoad_sound ok h1
  case h_9 => exact bnd_mono h fun _ _ h1 => bnd_mono h1 fun _ _ h2 => xStore_sound ok h2
  case h_10 => exact h
  case h_11 => exact bnd_mono h fun _ _ h1 => bnd_mono h1 fun _ _ h2 => xBin_sound ok h2
  case h_12 => exact bnd_mono h fun _ _ h1 => xUn_sound h1
  case h_13 => exact bnd_mono h fun _ _ h1 => xConv_sound ok h1
  case h_14 =>
    split at h
    · split at h
      · rename_i hf; exact ⟨by simpa using hf, h⟩
      · exact h.elim
    · exact h.elim
  case h_15 => exact bnd_mono h fun _ _ h1 => bnd_mono h1 fun _ _ h2 => xMakeSlice_sound ok h2
  case h_16 => exact bnd_mono h fun _ _ h1 => bnd_mono h1 fun _ _ h2 => bnd_mono h2 fun _ _ h3 => bnd_mono h3 fun _ _ h4 => xSlice_sound ok h4
  case h_17 => exact bnd_mono h fun _ _ h1 => xFieldAddr_sound ok h1
  case h_18 => exact bnd_mono h fun _ _ h1 => xField_sound ok h1
  case h_19 => exact bnd_mono h fun _ _ h1 => bnd_mono h1 fun _ _ h2 => xIndexAddr_sound ok h2
  case h_20 => exact bnd_mono h fun _ _ h1 => bnd_mono h1 fun _ _ h2 => xIndex_sound ok h2
  case h_21 => exact bnd_mono h fun _ _ h1 => xExt_sound h1
  case h_22 =>
    split at h
    · rename_i hc
      show opCall P σ H _ K
      unfold opCall; rw [hc]
      exact bnd_mono h fun fv _ h1 => bnd_mono h1 fun rs _ h2 => xCallV_sound h2
    · rename_i hc
      show opCall P σ H _ K
      unfold opCall; rw [hc]
      exact bnd_mono h fun rs _ h1 => xBuiltin_sound ok h1
    · exact h.elim
  case h_23 =>
    split at h
    · have := hpush_spec h; rw [Nat.zero_add] at this; exact this
    · exact h.elim
  case h_24 => exact bnd_mono h fun _ _ h1 => bnd_mono h1 fun _ _ h2 => xLookup_sound ok h2
  case h_25 => exact bnd_mono h fun _ _ h1 => bnd_mono h1 fun _ _ h2 => bnd_mono h2 fun _ _ h3 => xMapUpdate_sound ok h3
  case h_26 => exact bnd_mono h fun _ _ h1 => bnd_mono h1 fun _ _ h2 => bnd_mono h2 fun _ _ h3 => xMapUpdate_sound ok h3
  case h_27 => exact h.elim
  all_goals exact h
end
end GA
