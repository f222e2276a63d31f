/- A region that draws its order: the law. -/
import Derived.Test.YtlbdomhfcghjdaaAbs22
namespace GA
open Go Go.RowKit
set_option linter.unusedVariables false

section
variable {P : Program} {T : Tab} {N : Nat} {ρ : Option Nat} {own : List Nat} {E : Env} {h : Nat → Option Obj} {β : Nat → Value} {H : List Blk} {w : World} {σ σ' : St} {a : Act} {ops : List Oper} {eff : List Nat} {HS : List Bool → List Blk}

def isL (listed : Array Bool) (j : Nat) : Prop := listed.getD j false = true
def Closed (ops : List Oper) (listed : Array Bool) : Prop := ∀ (j : Nat) o, ops[j]? = some o → isL listed j → ∀ e ∈ o.after, Region.binds .any e = true → isL listed e.on
structure DInv (P : Program) (E : Env) (N : Nat) (ops : List Oper) (eff : List Nat) (HS : List Bool → List Blk) (R : List AV) (σ : St) (a0 : Act) (h0 : Nat → Option Obj) (β0 : Nat → Value) (H0 : List Blk) (listed : Array Bool) (a : Act) (w : World) : Prop where
  size : listed.size = ops.length
  closed : Closed ops listed
  st : ∃ h β, Ext h0 β0 H0 h β (HS (flagsOf eff listed)) ∧ SR P E h β (HS (flagsOf eff listed)) w ∧
    (∀ t r, σ t = some r → (∀ (j : Nat) o, ops[j]? = some o → isL listed j → o.dst ≠ some t ∨ ¬ t < N) → ∃ v, a.tmps[t]? = some v ∧ Rep P h β (HS (flagsOf eff listed)) r v) ∧
    (∀ (j : Nat) o d r, ops[j]? = some o → isL listed j → o.dst = some d → d < N → R[j]? = some r → (∀ (k : Nat) ok, ops[k]? = some ok → isL listed k → j < k → ok.dst ≠ some d) → ∃ v, a.tmps[d]? = some v ∧ Rep P h β (HS (flagsOf eff listed)) r v)
  keeps : Keeps a0 a

theorem dep_iff {o : Oper} {j : Nat} : dep o j = true ↔ ∃ e ∈ o.after, Region.binds .any e = true ∧ e.on = j := by
  unfold dep; rw [List.any_eq_true]
  constructor
  · rintro ⟨e, h1, h2⟩
    simp only [Bool.and_eq_true] at h2
    exact ⟨e, by simpa using h1, h2.1, Nat.eq_of_beq_eq_true h2.2⟩
  · rintro ⟨e, h1, h2, h3⟩
    exact ⟨e, by simpa using h1, by subst h3; simp [h2]⟩
theorem flags_zip {listed : Array Bool} {p : Nat × Bool} : ∀ {eff : List Nat}, p ∈ eff.zip (flagsOf eff listed) → p.2 = listed.getD p.1 false
  | [], h => by simp at h
  | j :: eff, h => by
    simp only [flagsOf, List.map_cons, List.zip_cons_cons] at h
    rcases List.mem_cons.1 h with h | h
    · subst h; rfl
    · exact flags_zip h
theorem opAt_spec {j : Nat} {f : Oper → Bool} (h : ∀ o, ops[j]? = some o → f o = true) : opAt ops j f = true := by
  unfold opAt; rw [lget_eq]; split
  · rename_i e; exact h _ e
  · rfl
theorem compat_flags {listed : Array Bool} {i : Nat} (hc : Closed ops listed) (hi : ¬ isL listed i) (hr : ∀ o, ops[i]? = some o → ∀ e ∈ o.after, Region.binds .any e = true → isL listed e.on) : compat ops eff i (flagsOf eff listed) = true := by
  unfold compat
  rw [List.all_eq_true]
  rintro ⟨j, b⟩ hp
  have hb := flags_zip hp
  simp only at hb; subst hb
  simp only [Bool.and_eq_true]
  refine ⟨⟨⟨opAt_spec fun o ho => ?_, ?_⟩, opAt_spec fun o ho => ?_⟩, ?_⟩
  · cases hd : dep o j with
    | false => rfl
    | true => obtain ⟨e, h1, h2, h3⟩ := dep_iff.1 hd; have := hr o ho e h1 h2; rw [h3] at this; simpa [isL] using this
  · cases hd : Nat.beq j i with
    | false => rfl
    | true => have := Nat.eq_of_beq_eq_true hd; subst this; simpa [isL] using hi
  · cases hd : dep o i with
    | false => rfl
    | true =>
      obtain ⟨e, h1, h2, h3⟩ := dep_iff.1 hd
      cases hl : listed.getD j false with
      | false => rfl
      | true => exact absurd (h3 ▸ hc j o ho hl e h1 h2) hi
  · cases hl : listed.getD j false with
    | false => rfl
    | true =>
      simp only [Bool.not_true, Bool.false_or]
      rw [List.all_eq_true]
      rintro ⟨j', b'⟩ hp'
      have hb' := flags_zip hp'
      simp only at hb'; subst hb'
      refine opAt_spec fun o ho => ?_
      cases hd : dep o j' with
      | false => rfl
      | true => obtain ⟨e, h1, h2, h3⟩ := dep_iff.1 hd; have := hc j o ho hl e h1 h2; rw [h3] at this; simpa [isL] using this

theorem isL_set {listed : Array Bool} {i j : Nat} (hi : i < listed.size) : isL (listed.setIfInBounds i true) j ↔ j = i ∨ isL listed j := by
  unfold isL
  by_cases h : i = j
  · subst h; simp [hi]
  · rw [getD_set_ne false h]; simp [Ne.symm h]
theorem flags_set {listed : Array Bool} {i : Nat} (hi : i < listed.size) : ∀ (eff : List Nat), flagsOf eff (listed.setIfInBounds i true) = setF eff i (flagsOf eff listed)
  | [] => rfl
  | j :: eff => by
    simp only [flagsOf, setF, List.map_cons, List.zipWith_cons_cons]
    congr 1
    · by_cases h : i = j
      · subst h; simp [hi]
      · rw [getD_set_ne false h]
        cases hb : Nat.beq j i with
        | true => exact absurd (Nat.eq_of_beq_eq_true hb).symm h
        | false => simp
    · exact flags_set hi eff

theorem DInv.step {R : List AV} {a0 : Act} {h0 : Nat → Option Obj} {β0 : Nat → Value} {H0 : List Blk} {Q : Exit → Act → World → Prop} (ok : TabOk P T) (hN : a0.tmps.size = N)
    (hlex : ∀ (i : Nat) o, ops[i]? = some o → ∀ (j : Nat) oj, i < j → ops[j]? = some oj → (∀ e ∈ oj.after, Region.binds .any e = true → e.on ≠ i) → o.apart ops.toArray oj = true)
    (hchk : ChkAll P T N own ops eff HS 0 ops R σ) {listed : Array Bool} {a : Act} {w : World} (I : DInv P E N ops eff HS R σ a0 h0 β0 H0 listed a w) {i : Nat} (hi : i ∈ Region.ready .any ops.toArray listed) :
    wpOpIn (FW ρ) 0 P ops.toArray Q i (DInv P E N ops eff HS R σ a0 h0 β0 H0 (listed.setIfInBounds i true)) a w := by
  obtain ⟨hnot, o, ho, hall⟩ := mem_ready.1 hi
  have ho' : ops[i]? = some o := by simpa using ho
  have hilt : i < ops.length := (List.getElem?_eq_some_iff.1 ho').1
  have hils : i < listed.size := by rw [I.size]; exact hilt
  have hni : ¬ isL listed i := by unfold isL; simp [hils] at hnot ⊢; exact hnot
  obtain ⟨hRl, hget⟩ := hchk.get
  obtain ⟨r, hr, hc⟩ := hget i o ho'
  rw [Nat.zero_add] at hc
  have hC := hc (flagsOf eff listed) (by simp [flagsOf]) (compat_flags I.closed hni fun o' h e he hb => by rw [ho'] at h; cases h; exact hall e he hb)
  obtain ⟨h, β, X, s, K1, K2⟩ := I.st
  -- edges
  have edge : ∀ (j : Nat) oj, ops[j]? = some oj → i < j → isL listed j → o.apart ops.toArray oj = true := fun j oj hj hij hl =>
    hlex i o ho' j oj hij hj fun e he hb heq => hni (heq ▸ I.closed j oj hj hl e he hb)
  have edge' : ∀ (j : Nat) oj, ops[j]? = some oj → j < i → ¬ isL listed j → oj.apart ops.toArray o = true := fun j oj hj hij hl =>
    hlex j oj hj i o hij ho' fun e he hb heq => hl (heq ▸ hall e he hb)
  -- what is looked at
  let σ₁ := xFold N (ops.take i) (R.take i) σ
  let σ₂ : St := fun t => if t ∈ o.looksAt ops.toArray then σ₁ t else none
  have hF : Fits P h β (HS (flagsOf eff listed)) σ₂ a := by
    intro t x ex
    simp only [σ₂] at ex
    split at ex
    · rename_i hlook
      rcases xFold_get (by simp [hRl]) ex with ⟨j, oj, h1, h2, h3, h4, h5⟩ | ⟨h1, h2⟩
      · have hji : j < i := by have := (List.getElem?_eq_some_iff.1 h1).1; simp at this; omega
        have h1' : ops[j]? = some oj := by rw [List.getElem?_take, if_pos hji] at h1; exact h1
        have h4' : R[j]? = some x := by rw [List.getElem?_take, if_pos hji] at h4; exact h4
        have hjl : isL listed j := by
          by_cases hl : isL listed j
          · exact hl
          · exact absurd hlook ((Oper.apart_spec (edge' j oj h1' hji hl)).1 t h2)
        refine K2 j oj t x h1' hjl h2 h3 h4' fun k ok hk hkl hjk => ?_
        rcases Nat.lt_trichotomy k i with hki | rfl | hki
        · exact h5 k ok (by rw [List.getElem?_take, if_pos hki]; exact hk) hjk
        · exact absurd hkl hni
        · intro hd; exact (Oper.apart_spec (edge k ok hk hki hkl)).2.2 t hd hlook
      · refine K1 t x h2 fun j oj hj hjl => ?_
        rcases Nat.lt_trichotomy j i with hji | rfl | hji
        · exact h1 j oj (by rw [List.getElem?_take, if_pos hji]; exact hj)
        · exact absurd hjl hni
        · left; intro hd; exact (Oper.apart_spec (edge j oj hj hji hjl)).2.2 t hd hlook
    · cases ex
  have hk2 : Knows σ₁ σ₂ o.op.operands.toList := by
    intro t ht x ex
    have : t ∈ o.looksAt ops.toArray := by
      unfold Oper.looksAt; rw [List.mem_append]; left; rw [List.mem_filterMap]; exact ⟨.tmp t, ht, rfl⟩
    simp only [σ₂]; rw [if_pos this]; exact ex
  have hg1 := xGate_gate hC
  have hg2 : gate ops σ₂ o.guard (XOp P T own o.dst σ₁ (HS (flagsOf eff listed)) (fun r' H' => XSame r' H' r (HS (setF eff i (flagsOf eff listed)))) o.op) (XSame (.tup []) (HS (flagsOf eff listed)) r (HS (setF eff i (flagsOf eff listed)))) := by
    unfold gate at hg1 ⊢
    cases hgd : o.guard with
    | none => rw [hgd] at hg1; exact hg1
    | some p =>
      obtain ⟨j, want⟩ := p
      rw [hgd] at hg1
      obtain ⟨d, e1, e2⟩ := bnd_elim hg1
      obtain ⟨x, e3, e4⟩ := bnd_elim e2
      have : d ∈ o.looksAt ops.toArray := by
        unfold Oper.looksAt; rw [List.mem_append]; right; rw [hgd]; simp only [List.getElem?_toArray, e1]; simp
      have e5 : σ₂ d = some x := by simp only [σ₂]; rw [if_pos this]; exact e3
      simp only [e1, bnd_some, e5]; exact e4
  -- the next state
  have next : ∀ (v : Value) h' β' w', Ext h β (HS (flagsOf eff listed)) h' β' (HS (setF eff i (flagsOf eff listed))) → SR P E h' β' (HS (setF eff i (flagsOf eff listed))) w' → Rep P h' β' (HS (setF eff i (flagsOf eff listed))) r v →
      DInv P E N ops eff HS R σ a0 h0 β0 H0 (listed.setIfInBounds i true) (a.put o.dst v) w' := by
    intro v h' β' w' X' s' hrep
    have hsz : a.tmps.size = N := I.keeps.size.trans hN
    refine ⟨by simpa using I.size, fun j oj hj hl e he hb => ?_, ⟨h', β', ?_, ?_, ?_, ?_⟩, ⟨(size_put _ _ _).trans I.keeps.size, (defers_put _ _ _).trans I.keeps.defers⟩⟩
    · rw [isL_set hils] at hl ⊢
      rcases hl with rfl | hl
      · rw [ho'] at hj; cases hj; exact .inr (hall e he hb)
      · exact .inr (I.closed j oj hj hl e he hb)
    · rw [flags_set hils]; exact X.trans X'
    · rw [flags_set hils]; exact s'
    · rw [flags_set hils]
      intro t x ex hno
      obtain ⟨u, g1, g2⟩ := K1 t x ex fun j oj hj hl => hno j oj hj ((isL_set hils).2 (.inr hl))
      refine ⟨u, ?_, X'.rep g2⟩
      have hd := hno i o ho' ((isL_set hils).2 (.inl rfl))
      cases hdst : o.dst with
      | none => exact g1
      | some d =>
        simp only [Act.put]
        by_cases hdt : d = t
        · subst hdt
          rcases hd with hd | hd
          · exact absurd hdst hd
          · rw [Array.setIfInBounds_eq_of_size_le (by omega)]; exact g1
        · rw [Array.getElem?_setIfInBounds_ne hdt]; exact g1
    · rw [flags_set hils]
      intro j oj d x hj hl hd hdN hx hlast
      rw [isL_set hils] at hl
      by_cases hji : j = i
      · subst hji
        rw [ho'] at hj; cases hj
        rw [hr] at hx; cases hx
        exact ⟨v, by rw [hd]; simp [Act.put, hsz, hdN], hrep⟩
      · have hl : isL listed j := hl.resolve_left hji
        obtain ⟨u, g1, g2⟩ := K2 j oj d x hj hl hd hdN hx fun k ok hk hkl hjk => hlast k ok hk ((isL_set hils).2 (.inr hkl)) hjk
        refine ⟨u, ?_, X'.rep g2⟩
        have hne : o.dst ≠ some d := by
          intro hod
          rcases Nat.lt_trichotomy j i with hlt | heq | hlt
          · exact hlast i o ho' ((isL_set hils).2 (.inl rfl)) hlt hod
          · exact hji heq
          · exact (Oper.apart_spec (edge j oj hj hlt hl)).2.1 d hod hd
        cases hdst : o.dst with
        | none => exact g1
        | some d' =>
          simp only [Act.put]
          rw [Array.getElem?_setIfInBounds_ne (fun e => hne (by rw [hdst, e]))]; exact g1
  unfold wpOpIn
  simp only [ho]
  rcases gate_wanted hF hg2 with ⟨hw, hA⟩ | ⟨hw, hB⟩
  · rw [if_pos hw]
    refine AOp.sound (AOp_look hk2 (hA.sound ok)) s hF ?_
    intro r' H' h' β' w' v hk' X' s' hrep
    obtain ⟨e1, e2⟩ := hk'
    subst e1; subst e2
    exact next v h' β' w' X' s' hrep
  · rw [if_neg (by rw [hw]; simp)]
    refine ⟨fun _ _ => trivial, ?_⟩
    obtain ⟨e1, e2⟩ := hB
    refine next undef h β w ?_ ?_ ?_
    · rw [← e2]; exact Ext.refl _ _ _
    · rw [← e2]; exact s
    · rw [← e1]; exact rep_undef

theorem unl_zero {listed : Array Bool} (h : (List.range listed.size).countP (fun j => !listed.getD j false) = 0) {j : Nat} (hj : j < listed.size) : isL listed j := by
  rw [List.countP_eq_zero] at h
  have := h j (by simpa using hj)
  simpa [isL] using this
theorem unl_set {listed : Array Bool} {i : Nat} (hi : i < listed.size) (hn : ¬ isL listed i) :
    (List.range (listed.setIfInBounds i true).size).countP (fun j => !(listed.setIfInBounds i true).getD j false) + 1 = (List.range listed.size).countP (fun j => !listed.getD j false) := by
  have e : ∀ n, n ≤ listed.size → (List.range n).countP (fun j => !(listed.setIfInBounds i true).getD j false) + (if i < n then 1 else 0) = (List.range n).countP (fun j => !listed.getD j false) := by
    intro n
    induction n with
    | zero => intro _; simp
    | succ n ih =>
      intro hn'
      have ih := ih (by omega)
      rw [List.range_succ, List.countP_append, List.countP_append, ← ih]
      by_cases h : i = n
      · subst h
        have h1 : listed.getD i false = false := by unfold isL at hn; simpa using hn
        have h2 : (listed.setIfInBounds i true).getD i false = true := by simp [hi]
        simp only [List.countP_cons, List.countP_nil, h1, h2]
        simp
      · rw [show List.countP (fun j => !(listed.setIfInBounds i true).getD j false) [n] = List.countP (fun j => !listed.getD j false) [n] by simp only [List.countP_cons, List.countP_nil, getD_set_ne false h]]
        split <;> split <;> omega
  have := e listed.size (Nat.le_refl _)
  rw [if_pos hi] at this
  simpa using this

theorem DInv.any {R : List AV} {a0 : Act} {h0 : Nat → Option Obj} {β0 : Nat → Value} {H0 : List Blk} {Q : Exit → Act → World → Prop} (ok : TabOk P T) (hN : a0.tmps.size = N) (hs : Region.lexB .any ops.toArray = true)
    (hchk : ChkAll P T N own ops eff HS 0 ops R σ) (hQ : ∀ listed a w, DInv P E N ops eff HS R σ a0 h0 β0 H0 listed a w → (∀ j, j < ops.length → isL listed j) → Q .normal a w) :
    ∀ (fuel : Nat) (listed : Array Bool) (a : Act) (w : World), (List.range listed.size).countP (fun j => !listed.getD j false) = fuel → DInv P E N ops eff HS R σ a0 h0 β0 H0 listed a w → wpAnyIn (FW ρ) 0 P .any ops.toArray Q fuel listed a w := by
  simp only [Region.lexB, Bool.and_eq_true] at hs
  have hspec := lex_spec (ops := ops.toArray) ops.toArray.size 0 (Array.replicate ops.toArray.size false) (by simp) (fun j => by
    simp only [Array.getD_eq_getD_getElem?, Array.getElem?_replicate]
    split <;> simp_all) (by simp) hs.2
  have hlex : ∀ (i : Nat) o, ops[i]? = some o → ∀ (j : Nat) oj, i < j → ops[j]? = some oj → (∀ e ∈ oj.after, Region.binds .any e = true → e.on ≠ i) → o.apart ops.toArray oj = true :=
    fun i o ho j oj hij hj hno => (hspec i o (Nat.zero_le _) (by simpa using ho)).2 j oj hij (by simpa using hj) hno
  -- who is ready when nobody is
  have hready : ∀ listed a w, DInv P E N ops eff HS R σ a0 h0 β0 H0 listed a w → Region.ready .any ops.toArray listed = [] → ∀ j, j < ops.length → isL listed j := by
    intro listed a w I hr j
    induction j using Nat.strongRecOn with
    | _ j ih =>
      intro hj
      by_cases hl : isL listed j
      · exact hl
      · exfalso
        have : j ∈ Region.ready .any ops.toArray listed := by
          rw [mem_ready]
          refine ⟨?_, ops[j], by simp [hj], fun e he hb => ?_⟩
          · have hjs : j < listed.size := by rw [I.size]; exact hj
            unfold isL at hl; simp [hjs] at hl ⊢; exact hl
          · have h1 := (hspec j ops[j] (Nat.zero_le _) (by simp [hj])).1 e he hb
            exact ih e.on h1 (by omega)
        rw [hr] at this; cases this
  intro fuel
  induction fuel with
  | zero =>
    intro listed a w hc I
    have hall : ∀ j, j < ops.length → isL listed j := fun j hj => unl_zero hc (by rw [I.size]; exact hj)
    refine ⟨?_, hQ listed a w I hall⟩
    cases hr : Region.ready .any ops.toArray listed with
    | nil => rfl
    | cons j l =>
      have : j ∈ Region.ready .any ops.toArray listed := by rw [hr]; simp
      obtain ⟨h1, o, h2, _⟩ := mem_ready.1 this
      have hj : j < ops.length := by have := (Array.getElem?_eq_some_iff.1 h2).1; simpa using this
      have hjs : j < listed.size := by rw [I.size]; exact hj
      have := hall j hj
      unfold isL at this; simp [hjs] at h1 this; rw [h1] at this; cases this
  | succ fuel ih =>
    intro listed a w hc I
    refine ⟨fun hr => hQ listed a w I (hready listed a w I hr), fun i hi => ?_⟩
    obtain ⟨h1, o, h2, _⟩ := mem_ready.1 hi
    have hj : i < ops.length := by have := (Array.getElem?_eq_some_iff.1 h2).1; simpa using this
    have hjs : i < listed.size := by rw [I.size]; exact hj
    have hn : ¬ isL listed i := by unfold isL; simp [hjs] at h1 ⊢; exact h1
    refine wpOpIn_mono (fun a' w' I' => ih _ a' w' ?_ I') (DInv.step ok hN hlex hchk I hi)
    have := unl_set hjs hn
    omega

/-- **A region that draws its order.** R: what each operation comes to; HS: the memory, by which of the operations that change it have been carried out. -/
theorem Walk.draw {id : Nat} {Q : Post} {D : List Nat} (ok : TabOk P T) (hm : P.follows .mixedOrders = true) (own : List Nat) (eff : List Nat) (HS : List Bool → List Blk) (R : List AV) (hs : Region.lexB .any ops.toArray = true)
    (hH : HS (eff.map fun _ => false) = H) (hchk : ChkAll P T N own ops eff HS 0 ops R σ) (hk : Q .normal D (xFold N ops R σ) (HS (eff.map fun j => Nat.blt j ops.length))) : Walk P N ρ (.region id ops.toArray true) Q D σ H := by
  constructor
  intro E h β a w s
  have hfl0 : flagsOf eff (Array.replicate ops.toArray.size false) = eff.map fun _ => false := by
    unfold flagsOf; apply List.map_congr_left; intro j _
    simp only [Array.getD_eq_getD_getElem?, Array.getElem?_replicate]; split <;> rfl
  have hnl : ∀ j, ¬ isL (Array.replicate ops.toArray.size false) j := by
    intro j; unfold isL
    simp only [Array.getD_eq_getD_getElem?, Array.getElem?_replicate]; split <;> simp
  have I0 : DInv P E N ops eff HS R σ a h β H (Array.replicate ops.toArray.size false) a { w with drawn := w.drawn + 1 } := by
    refine ⟨by simp, fun j o _ hl => absurd hl (hnl j), ⟨h, β, ?_, ?_, fun t r e _ => ?_, fun j o d r _ hl => absurd hl (hnl j)⟩, ⟨rfl, rfl⟩⟩
    · rw [hfl0, hH]; exact Ext.refl _ _ _
    · rw [hfl0, hH]; exact s.sr.drew
    · rw [hfl0, hH]; exact s.fits t r e
  have hcnt : (List.range (Array.replicate ops.toArray.size false).size).countP (fun j => !(Array.replicate ops.toArray.size false).getD j false) = ops.toArray.size := by
    rw [List.countP_eq_length.2]
    · simp
    · intro j _; have := hnl j; unfold isL at this; simpa using this
  refine wpIn_region_any hm (DInv.any ok s.size hs hchk (fun listed a' w' I hall => ?_) _ _ a _ hcnt I0)
  obtain ⟨h', β', X, s', K1, K2⟩ := I.st
  have hfl : flagsOf eff listed = eff.map fun j => Nat.blt j ops.length := by
    unfold flagsOf; apply List.map_congr_left; intro j _
    rcases Nat.lt_or_ge j ops.length with hj | hj
    · have := hall j hj; unfold isL at this; rw [this]; symm; rw [Nat.blt_eq]; exact hj
    · have h1 : listed.getD j false = false := by simp [Array.getElem?_eq_none (show listed.size ≤ j by rw [I.size]; exact hj)]
      rw [h1]; cases hb : Nat.blt j ops.length with
      | false => rfl
      | true => rw [Nat.blt_eq] at hb; omega
  rw [hfl] at X s' K1 K2
  refine ⟨D, _, _, h', β', hk, X, s', fun t x ex => ?_, I.keeps.size.trans s.size, by rw [I.keeps.defers]; exact s.df.ext X⟩
  rcases xFold_get hchk.get.1 ex with ⟨j, oj, h1, h2, h3, h4, h5⟩ | ⟨h1, h2⟩
  · exact K2 j oj t x h1 (hall j (List.getElem?_eq_some_iff.1 h1).1) h2 h3 h4 fun k ok hk _ hjk => h5 k ok hk hjk
  · exact K1 t x h2 fun j o hj _ => h1 j o hj
end
end GA
