/- Operations and regions: soundness. -/
import Derived.Test.YtlbdomhfcghjdaaAbs10
namespace GA
open Go Go.RowKit

/-- Is an operation carried out: by the truth that its guard looks at. -/
def gate (all : List Oper) (σ : St) (g : Option (Nat × Bool)) (A B : Prop) : Prop :=
  match g with
  | none => A
  | some (j, want) => bnd ((all[j]?).bind (·.dst)) fun d => bnd (σ d) fun r =>
    match r with
    | .bool b => Br (b == want) A B
    | .tup [] => B
    | _ => False

/-- A region's operations, in the order of the text. -/
def AReg (P : Program) (N : Nat) (own : List Nat) (all : List Oper) : List Oper → St → List Blk → (St → List Blk → Prop) → Prop
  | [], σ, H, K => K σ H
  | o :: rest, σ, H, K => gate all σ o.guard (AOp P own o.dst σ H (fun r H' => AReg P N own all rest (putO N σ o.dst r) H' K) o.op) (AReg P N own all rest (putO N σ o.dst (.tup [])) H K)

section
variable {P : Program} {E : Env} {h : Nat → Option Obj} {β : Nat → Value} {H : List Blk} {w : World} {σ : St} {a : Act} {ρ : Option Nat}

theorem wpIn_unit {o : Oper} {m : Sem Unit} (he : execOp a.eval o = (do m; pure Next.skip)) (hd : ∀ c, o.op ≠ .defer c) {k : AV → List Blk → Prop} {next : Act → World → Prop} {Q : Exit → Act → World → Prop}
    (hn : NextOk P E h β H a o k next) (y : YieldsU P E h β H m w k) : o.wpIn (FW ρ) 0 P a w next Q := by
  obtain ⟨w', H', h', β', h1, h2, h3, h4⟩ := y
  refine wpIn_of_run hd ?_
  rw [he, Sem.run_bind, h1]
  exact hn (.tup []) H' h' β' w' undef h2 h3 h4 (.tup (fun _ => undef) rfl (by simp) (by simp))

theorem map_toList_eq {α γ : Type} (f : α → γ) (x : Array α) : x.map f = (x.toList.map f).toArray := by apply Array.ext'; simp

theorem evO_val (F : Fits P h β H σ a) {x : Option Operand} {r : Option AV} (e : evO σ x = some r) : (r = none ∧ x.map a.eval = none) ∨ ∃ q u, r = some q ∧ x.map a.eval = some u ∧ Rep P h β H q u := by
  rcases RepO.ev F e with ⟨rfl, rfl⟩ | ⟨o, v, rfl, rfl, hr⟩
  · exact .inl ⟨rfl, rfl⟩
  · exact .inr ⟨v, _, rfl, rfl, hr⟩

theorem AOp.sound {own : List Nat} {o : Oper} {k : AV → List Blk → Prop} (hk : AOp P own o.dst σ H k o.op) (s : SR P E h β H w) (F : Fits P h β H σ a) {next : Act → World → Prop} {Q : Exit → Act → World → Prop}
    (hn : NextOk P E h β H a o k next) : o.wpIn (FW ρ) 0 P a w next Q := by
  generalize ho : o.op = op at hk
  have hd : (∀ c, op ≠ .defer c) → ∀ c, o.op ≠ .defer c := fun hh c => by rw [ho]; exact hh c
  have hex : ∀ s, execOp a.eval { o with op := op } = s → execOp a.eval o = s := fun s e => by rw [← e]; cases o; cases ho; rfl
  cases op with
  | move x =>
    obtain ⟨r, h1, hk⟩ := bnd_elim hk
    exact wpIn_pure (hex _ rfl) (hd (by simp)) hn s (F.ev h1) hk
  | assign x =>
    obtain ⟨r, h1, hk⟩ := bnd_elim hk
    exact wpIn_pure (hex _ rfl) (hd (by simp)) hn s (F.ev h1) hk
  | pick c x y =>
    obtain ⟨r, h1, hk⟩ := bnd_elim hk
    split at hk
    · rename_i q
      have hc := rep_bool (F.ev h1)
      cases q with
      | true =>
        rw [Br_true] at hk
        obtain ⟨r, h2, hk⟩ := bnd_elim hk
        exact wpIn_pure (v := a.eval x) (hex _ (by show (do pure (Next.value (if ← asBool (a.eval c) then a.eval x else a.eval y)) : Sem Next) = _; rw [hc]; rfl)) (hd (by simp)) hn s (F.ev h2) hk
      | false =>
        rw [Br_false] at hk
        obtain ⟨r, h2, hk⟩ := bnd_elim hk
        exact wpIn_pure (v := a.eval y) (hex _ (by show (do pure (Next.value (if ← asBool (a.eval c) then a.eval x else a.eval y)) : Sem Next) = _; rw [hc]; rfl)) (hd (by simp)) hn s (F.ev h2) hk
    · exact hk.elim
  | alloc t =>
    obtain ⟨z, h1, hk⟩ := bnd_elim hk
    exact wpIn_value (hex _ rfl) (hd (by simp)) hn (alloc_sound s h1 hk)
  | box t x =>
    obtain ⟨r, h1, hk⟩ := bnd_elim hk
    split at hk
    · exact wpIn_value (hex _ rfl) (hd (by simp)) hn (boxO_sound s (F.ev h1) hk)
    · exact wpIn_value (hex _ rfl) (hd (by simp)) hn (boxI_sound s (F.ev h1) hk)
  | build t ps =>
    obtain ⟨rs, h1, hk⟩ := bnd_elim hk
    obtain ⟨e1, e2⟩ := evP_ok F h1
    refine wpIn_value' (hex _ rfl) (hd (by simp)) hn ?_
    rw [map_toList_eq]
    exact opBuild_sound s e1 e2 hk
  | buildSlice t n ps =>
    obtain ⟨rs, h1, hk⟩ := bnd_elim hk
    refine wpIn_value (hex _ rfl) (hd (by simp)) hn ?_
    rw [map_toList_eq]
    exact opBuildSlice_sound s F h1 hk
  | load t x =>
    obtain ⟨r, h1, hk⟩ := bnd_elim hk
    exact wpIn_value' (hex _ rfl) (hd (by simp)) hn (opLoad_sound s (F.ev h1) hk)
  | store t x v =>
    obtain ⟨r, h1, hk⟩ := bnd_elim hk
    obtain ⟨u, h2, hk⟩ := bnd_elim hk
    exact wpIn_unit (hex _ rfl) (hd (by simp)) hn (opStore_sound s (F.ev h1) (F.ev h2) hk)
  | nilCheck x =>
    obtain ⟨r, h1, hk⟩ := bnd_elim hk
    have hr := F.ev h1
    have key : k r H → (∃ ad, a.eval x = .pointer (some ad)) ∨ (∃ f vs, a.eval x = .func (.func f) #[] vs) → o.wpIn (FW ρ) 0 P a w next Q := by
      intro hk hv
      refine wpIn_pure (v := a.eval x) (hex _ ?_) (hd (by simp)) hn s hr hk
      unfold execOp
      rcases hv with ⟨ad, e⟩ | ⟨f, vs, e⟩ <;> simp only [e]
    unfold opNilCheck at hk
    split at hk
    · generalize a.eval x = v at hr key
      cases hr; exact key hk (.inl ⟨_, rfl⟩)
    · generalize a.eval x = v at hr key
      cases hr; exact key hk (.inl ⟨_, rfl⟩)
    · generalize a.eval x = v at hr key
      cases hr; exact key hk (.inl ⟨_, rfl⟩)
    · generalize a.eval x = v at hr key
      cases hr; exact key hk (.inr ⟨_, _, rfl⟩)
    · exact hk.elim
  | binOp op t x y yt =>
    obtain ⟨u, h1, hk⟩ := bnd_elim hk
    obtain ⟨v, h2, hk⟩ := bnd_elim hk
    refine wpIn_value' (hex _ rfl) (hd (by simp)) hn ?_
    obtain ⟨v, w', r, H', h', β', e1, ⟨rfl, e2⟩, e3⟩ := opBinE_sound s (F.ev h1) (F.ev h2) (k := (k · H)) hk x y
    exact ⟨v, w', r, _, h', β', e1, ⟨rfl, e2⟩, e3⟩
  | unOp op t x =>
    obtain ⟨r, h1, hk⟩ := bnd_elim hk
    exact wpIn_value' (hex _ rfl) (hd (by simp)) hn (opUn_sound s (F.ev h1) hk)
  | convert t d x =>
    obtain ⟨r, h1, hk⟩ := bnd_elim hk
    exact wpIn_value' (hex _ rfl) (hd (by simp)) hn (opConv_sound s (F.ev h1) hk)
  | makeFunc fn first caps =>
    cases fn with
    | func f =>
      obtain ⟨h0, hk⟩ := hk
      obtain ⟨cs, h1, hk⟩ := bnd_elim hk
      have hcs := F.evL h1
      have h0' : first = #[] := Array.eq_empty_of_size_eq_zero h0
      subst h0'
      refine wpIn_pure (v := .func (.func f) #[] (caps.map a.eval)) (hex _ (by show (do pure (Next.value (← Instr.makeFunc (.func f) ((#[] : Array Operand).map a.eval) (caps.map a.eval))) : Sem Next) = _; rw [Array.map_empty]; rfl)) (hd (by simp)) hn s ?_ hk
      exact .fn (fun j => (caps.map a.eval).getD j undef) (by simpa using hcs.1) (fun j x e => by
        obtain ⟨v, g1, _⟩ := hcs.2 j x e
        rw [map_toList_eq]; simp only [List.getElem?_toArray]; rw [g1]; simp [g1]) (fun j x e => by
        obtain ⟨v, g1, g2⟩ := hcs.2 j x e
        have : (caps.map a.eval).getD j undef = v := by rw [map_toList_eq]; simp [g1]
        rw [this]; exact g2)
    | _ => exact hk.elim
  | makeSlice t l c =>
    obtain ⟨l', h1, hk⟩ := bnd_elim hk
    obtain ⟨c', h2, hk⟩ := bnd_elim hk
    exact wpIn_value (hex _ rfl) (hd (by simp)) hn (opMakeSlice_sound s (F.ev h1) (F.ev h2) hk)
  | slice t x lo hi mx =>
    obtain ⟨r, h1, hk⟩ := bnd_elim hk
    obtain ⟨lo', h2, hk⟩ := bnd_elim hk
    obtain ⟨hi', h3, hk⟩ := bnd_elim hk
    obtain ⟨mx', h4, hk⟩ := bnd_elim hk
    exact wpIn_value' (hex _ rfl) (hd (by simp)) hn (opSlice_sound s (F.ev h1) (evO_val F h2) (evO_val F h3) (evO_val F h4) hk)
  | fieldAddr t x f =>
    obtain ⟨r, h1, hk⟩ := bnd_elim hk
    exact wpIn_value' (hex _ rfl) (hd (by simp)) hn (opFieldAddr_sound s (F.ev h1) hk)
  | field t x f =>
    obtain ⟨r, h1, hk⟩ := bnd_elim hk
    exact wpIn_value' (hex _ rfl) (hd (by simp)) hn (opField_sound s (F.ev h1) hk)
  | indexAddr t x i =>
    obtain ⟨r, h1, hk⟩ := bnd_elim hk
    obtain ⟨i', h2, hk⟩ := bnd_elim hk
    exact wpIn_value' (hex _ rfl) (hd (by simp)) hn (opIndexAddr_sound s (F.ev h1) (F.ev h2) hk)
  | index t x i =>
    obtain ⟨r, h1, hk⟩ := bnd_elim hk
    obtain ⟨i', h2, hk⟩ := bnd_elim hk
    exact wpIn_value' (hex _ rfl) (hd (by simp)) hn (opIndex_sound s (F.ev h1) (F.ev h2) hk)
  | extract x i =>
    obtain ⟨r, h1, hk⟩ := bnd_elim hk
    exact wpIn_value' (hex _ rfl) (hd (by simp)) hn (opExt_sound s (F.ev h1) hk)
  | call c => exact opCall_sound ho hk s F hn
  | makeMap t r =>
    cases r with
    | none => exact wpIn_value (hex _ rfl) (hd (by simp)) hn (opMakeMap_sound s hk)
    | some r => exact hk.elim
  | lookup t x i ok =>
    obtain ⟨r, h1, hk⟩ := bnd_elim hk
    obtain ⟨i', h2, hk⟩ := bnd_elim hk
    exact wpIn_value' (hex _ rfl) (hd (by simp)) hn (opLookup_sound s (F.ev h1) (F.ev h2) hk)
  | mapUpdate t m i v =>
    obtain ⟨r, h1, hk⟩ := bnd_elim hk
    obtain ⟨i', h2, hk⟩ := bnd_elim hk
    obtain ⟨v', h3, hk⟩ := bnd_elim hk
    exact wpIn_unit (hex _ rfl) (hd (by simp)) hn (opMapUpdate_run s (F.ev h1) (F.ev h2) (F.ev h3) hk)
  | insert t m i v =>
    obtain ⟨r, h1, hk⟩ := bnd_elim hk
    obtain ⟨i', h2, hk⟩ := bnd_elim hk
    obtain ⟨v', h3, hk⟩ := bnd_elim hk
    exact wpIn_unit (hex _ rfl) (hd (by simp)) hn (opMapUpdate_run s (F.ev h1) (F.ev h2) (F.ev h3) hk)
  | _ => exact hk.elim

/-- The guard, in the machine. -/
theorem gate_wanted {all : List Oper} {o : Oper} {A B : Prop} (F : Fits P h β H σ a) (hg : gate all σ o.guard A B) :
    (Region.wanted o (yielded all.toArray a.tmps) = true ∧ A) ∨ (Region.wanted o (yielded all.toArray a.tmps) = false ∧ B) := by
  unfold gate at hg
  unfold Region.wanted
  cases hgd : o.guard with
  | none => rw [hgd] at hg; exact .inl ⟨rfl, hg⟩
  | some p =>
    obtain ⟨j, want⟩ := p
    rw [hgd] at hg
    obtain ⟨d, h1, hg1⟩ := bnd_elim hg
    obtain ⟨r, h2, hg2⟩ := bnd_elim hg1
    obtain ⟨v, h3, h4⟩ := F d r h2
    have hy : ∀ b, v = .bool b → yielded all.toArray a.tmps j = some b := by
      rintro b rfl
      unfold yielded
      simp only [List.getElem?_toArray, h1, Option.bind_some, h3]
    have hy' : v = .tuple #[] → yielded all.toArray a.tmps j = none := by
      rintro rfl
      unfold yielded
      simp only [List.getElem?_toArray, h1, Option.bind_some, h3]
    dsimp only
    split at hg2
    · rename_i b
      have := hy b (rep_bool h4)
      rw [this]
      by_cases hb : b = want
      · subst hb; simp [Br] at hg2 ⊢; exact hg2
      · have hb2 : (b == want) = false := by cases b <;> cases want <;> simp at hb ⊢
        rw [hb2, Br_false] at hg2
        right
        refine ⟨?_, hg2⟩
        cases b <;> cases want <;> simp at hb ⊢
    · cases h4 with
      | @tup _ vs us hs hc hr =>
        have : vs = #[] := Array.eq_empty_of_size_eq_zero hs
        subst this
        rw [hy' rfl]
        exact .inr ⟨rfl, hg2⟩
    · exact hg2.elim

theorem rep_undef : Rep P h β H (.tup []) undef := .tup (fun _ => undef) rfl (by simp) (by simp)

/-- What a run of a region keeps: the size of the frame, the deferred calls. -/
structure Keeps (a a' : Act) : Prop where
  size : a'.tmps.size = a.tmps.size
  defers : a'.defers = a.defers

theorem AReg.sound {N : Nat} {own : List Nat} {all : List Oper} {K : St → List Blk → Prop} {Q : Exit → Act → World → Prop} {a0 : Act} {h0 : Nat → Option Obj} {β0 : Nat → Value} {H0 : List Blk}
    (hQ : ∀ σ' H' h' β' a' w', K σ' H' → Ext h0 β0 H0 h' β' H' → SR P E h' β' H' w' → Fits P h' β' H' σ' a' → Keeps a0 a' → Q .normal a' w') :
    ∀ (l : List Oper) (i : Nat) (σ : St) (H : List Blk) (h : Nat → Option Obj) (β : Nat → Value) (a : Act) (w : World), (∀ j, l[j]? = all[i + j]?) → AReg P N own all l σ H K → Ext h0 β0 H0 h β H → SR P E h β H w → Fits P h β H σ a → Keeps a0 a → a.tmps.size = N →
      wpOpsIn (FW ρ) 0 P all.toArray Q ((List.range l.length).map (i + ·)) a w
  | [], i, σ, H, h, β, a, w, _, hk, X, s, F, kp, hN => hQ σ H h β a w hk X s F kp
  | o :: rest, i, σ, H, h, β, a, w, hl, hk, X, s, F, kp, hN => by
    have ho : all.toArray[i]? = some o := by have := hl 0; simpa using this.symm
    have hrange : (List.range (o :: rest).length).map (i + ·) = i :: (List.range rest.length).map (i + 1 + ·) := by
      simp only [List.length_cons, List.range_succ_eq_map, List.map_cons, List.map_map, Nat.add_zero]
      congr 1
      apply List.map_congr_left; intro j _; simp; omega
    rw [hrange]
    simp only [wpOpsIn, ho]
    have ih := fun σ' H' h' β' a' w' => AReg.sound (N := N) (own := own) hQ rest (i + 1) σ' H' h' β' a' w' (fun j => by have := hl (j + 1); simpa [Nat.add_assoc, Nat.add_comm 1 j] using this)
    simp only [AReg] at hk
    rcases gate_wanted F hk with ⟨hw, hA⟩ | ⟨hw, hB⟩
    · rw [if_pos hw]
      refine AOp.sound hA s F ?_
      intro r H' h' β' w' v hk' X' s' hr
      exact ih _ H' h' β' _ w' hk' (X.trans X') s' ((F.ext X').put hN hr) ⟨(size_put _ _ _).trans kp.size, (defers_put _ _ _).trans kp.defers⟩ ((size_put _ _ _).trans hN)
    · rw [if_neg (by rw [hw]; simp)]
      exact ⟨fun _ _ => trivial, ih _ H h β _ w hB X s (F.put hN rep_undef) ⟨(size_put _ _ _).trans kp.size, (defers_put _ _ _).trans kp.defers⟩ ((size_put _ _ _).trans hN)⟩
end
end GA
