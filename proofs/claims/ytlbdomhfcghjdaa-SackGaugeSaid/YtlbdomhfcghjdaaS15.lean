/- Contracts: the fewest carts, the closure. -/
import Derived.Test.YtlbdomhfcghjdaaS14
import Derived.Test.YtlbdomhfcghjdaaAbs28
namespace GA
open Go Go.RowKit Go.Proofs
set_option pp.deepTerms true
set_option maxRecDepth 8000
set_option linter.unusedVariables false
set_option linter.unusedSimpArgs false

theorem IterOk.run {P : Program} {i : Nat} {H : List Blk} {K : List Blk → Prop} {S : Type} (upd : List Blk → S → List Blk) (step : S → Nat → S) (I : S → List Nat → Prop)
    (x : ∀ s c cs, I s (c :: cs) → XYield P i [natA c] (upd H s) (fun r H' => r = .bool true ∧ H' = upd H (step s c)) ∧ I (step s c) cs) :
    ∀ (cs : List Nat) (s : S), I s cs → K (upd H (cs.foldl step s)) → IterOk P i K cs (upd H s)
  | [], s, _, hk => hk
  | c :: cs, s, hI, hk => by
    obtain ⟨h1, h2⟩ := x s c cs hI
    refine ⟨AYield.mono h1.o ?_⟩
    rintro r H' ⟨rfl, rfl⟩
    exact .inl ⟨rfl, IterOk.run upd step I x cs _ h2 hk⟩
theorem IterOk.go {P : Program} {i : Nat} {H : List Blk} {K : List Blk → Prop} {S : Type} {cs : List Nat} (upd : List Blk → S → List Blk) (step : S → Nat → S) (I : S → List Nat → Prop) (s0 : S) (hH : upd H s0 = H)
    (x : ∀ s c cs, I s (c :: cs) → XYield P i [natA c] (upd H s) (fun r H' => r = .bool true ∧ H' = upd H (step s c)) ∧ I (step s c) cs) (hI : I s0 cs) (hk : K (upd H (cs.foldl step s0))) : IterOk P i K cs H := by
  have := IterOk.run upd step I x cs s0 hI hk
  rwa [hH] at this
/-- As many carts as the program finds, with what it keeps in mind. -/
def ofM (d : Dk) : Nat → Nat → List (Int × Nat) → Nat × List (Int × Nat)
  | 0, _, m => (0, m)
  | f + 1, set, m => match look set m with
    | some v => (v, m)
    | none =>
      let r := (cartsL d set).foldl (fun (p : Nat × List (Int × Nat)) c => (min p.1 ((ofM d f (diff set c) p.2).1 + 1), (ofM d f (diff set c) p.2).2)) (10, m)
      (r.1, putm set r.1 r.2)
def ofStep (d : Dk) (f set : Nat) (p : Nat × List (Int × Nat)) (c : Nat) : Nat × List (Int × Nat) := (min p.1 ((ofM d f (diff set c) p.2).1 + 1), (ofM d f (diff set c) p.2).2)
theorem ofM_succ (d : Dk) (f set : Nat) (m : List (Int × Nat)) : ofM d (f + 1) set m = match look set m with
    | some v => (v, m)
    | none => (((cartsL d set).foldl (ofStep d f set) (10, m)).1, putm set ((cartsL d set).foldl (ofStep d f set) (10, m)).1 ((cartsL d set).foldl (ofStep d f set) (10, m)).2) := rfl

structure MOk (m : List (Int × Nat)) : Prop where
  z : look 0 m = some 0
  le : ∀ k v, look k m = some v → v ≤ 10
theorem ofM_ok (d : Dk) : ∀ (f set : Nat) (m : List (Int × Nat)), MOk m → (ofM d f set m).1 ≤ 10 ∧ MOk (ofM d f set m).2
  | 0, set, m, h => ⟨by simp [ofM], h⟩
  | f + 1, set, m, h => by
    rw [ofM_succ]
    cases hl : look (set : Int) m with
    | some v => exact ⟨h.le _ _ hl, h⟩
    | none =>
      have fold : ∀ (cs : List Nat) (p : Nat × List (Int × Nat)), p.1 ≤ 10 → MOk p.2 → (cs.foldl (ofStep d f set) p).1 ≤ 10 ∧ MOk (cs.foldl (ofStep d f set) p).2 := by
        intro cs
        induction cs with
        | nil => intro p h1 h2; exact ⟨h1, h2⟩
        | cons c cs ih =>
          intro p h1 h2
          rw [List.foldl_cons]
          obtain ⟨h3, h4⟩ := ofM_ok d f (diff set c) p.2 h2
          exact ih _ (by simp only [ofStep]; omega) h4
      obtain ⟨h1, h2⟩ := fold (cartsL d set) (10, m) (Nat.le_refl 10) h
      have hne : (0 : Int) ≠ set := fun e => by rw [← e, h.z] at hl; cases hl
      refine ⟨h1, by rw [look_put, if_neg hne]; exact h2.z, fun k v e => ?_⟩
      rw [look_put] at e
      split at e
      · cases e; exact h1
      · exact h2.le k v e
theorem diff_bit (a b i : Nat) : (diff a b).testBit i = (a.testBit i && !b.testBit i) := by
  unfold diff; simp only [Nat.testBit_xor, Nat.testBit_and]
  cases a.testBit i <;> cases b.testBit i <;> rfl
/-- All of the one are in the other. -/
def Sub (a b : Nat) : Prop := ∀ i, a.testBit i = true → b.testBit i = true
theorem Sub.le {a b : Nat} (h : Sub a b) : a ≤ b := by
  have : a &&& b = a := by
    apply Nat.eq_of_testBit_eq; intro i; rw [Nat.testBit_and]
    cases e : a.testBit i
    · rfl
    · rw [h i e]; rfl
  rw [← this]; exact Nat.and_le_right
theorem lowb_sub (s : Nat) : Sub (lowb s) s := fun i h => by unfold lowb at h; rw [diff_bit, Bool.and_eq_true] at h; exact h.1
theorem lowb_pos_all : ∀ s : Fin 512, s.val ≠ 0 → lowb s.val ≠ 0 := by decide +kernel
theorem lowb_pos {s : Nat} (h0 : 0 < s) (h : s < 512) : lowb s ≠ 0 := lowb_pos_all ⟨s, h⟩ (by simp only; omega)
theorem cartsF_mem (d : Dk) (set : Nat) : ∀ (f rest : Nat), Sub rest (diff set (lowb set)) → ∀ c ∈ cartsF d set f rest, ∃ r, c = r ||| lowb set ∧ Sub r (diff set (lowb set)) ∧ rightB d c = true
  | 0, _, _, c, hc => by simp [cartsF] at hc
  | f + 1, rest, hr, c, hc => by
    rw [cartsF_succ, List.mem_append] at hc
    rcases hc with hc | hc
    · split at hc
      · rename_i h; simp only [List.mem_singleton] at hc; subst hc; exact ⟨rest, rfl, hr, h⟩
      · simp at hc
    · split at hc
      · simp at hc
      · refine cartsF_mem d set f _ (fun i hi => ?_) c hc
        rw [diff_bit, Nat.testBit_and, Bool.and_eq_true, Bool.and_eq_true] at hi
        rw [diff_bit, hi.1.2, hi.2]; rfl
theorem carts_sub (d : Dk) {set c : Nat} (hc : c ∈ cartsL d set) : Sub c set ∧ Sub (lowb set) c ∧ rightB d c = true := by
  obtain ⟨r, rfl, h1, h2⟩ := cartsF_mem d set 512 _ (fun i h => h) c hc
  refine ⟨fun i h => ?_, fun i h => by rw [Nat.testBit_or, h, Bool.or_true], h2⟩
  rw [Nat.testBit_or, Bool.or_eq_true] at h
  rcases h with h | h
  · have := h1 i h; rw [diff_bit, Bool.and_eq_true] at this; exact this.1
  · exact lowb_sub set i h
theorem diff_lt {set c : Nat} (h0 : 0 < set) (h9 : set < 512) (hl : Sub (lowb set) c) : diff set c < set := by
  have h1 := diff_le set c
  rcases Nat.lt_or_ge (diff set c) set with h | h
  · exact h
  · exfalso
    have he : diff set c = set := by omega
    apply lowb_pos h0 h9
    apply Nat.eq_of_testBit_eq; intro i
    rw [Nat.zero_testBit]
    cases hb : (lowb set).testBit i
    · rfl
    · have h2 := hl i hb
      have h3 := lowb_sub set i hb
      have h4 := diff_bit set c i
      rw [he, h2, h3] at h4; cases h4
theorem carts_lt (d : Dk) {set c : Nat} (hs : 0 < set) (h9 : set < 512) (hc : c ∈ cartsL d set) : diff set c < set ∧ c < 512 := by
  obtain ⟨h1, h2, _⟩ := carts_sub d hc
  exact ⟨diff_lt hs h9 h2, by have := h1.le; omega⟩

def ofC (d : Dk) (j : Nat) : AV := .fn 132 [.ptr (j + 1) 0, .pim [.pim (deskC d)], .ptr (j + 2) 0]
def ofH (d : Dk) (m : List (Int × Nat)) : List Blk := [.map (esA m), .cells [.mp 0], .cells [ofC d 0]]
def OfOk (d : Dk) (f set : Nat) (m : List (Int × Nat)) : Prop :=
  ACall Try.prog 132 [natA set, .ptr 1 0, .pim [.pim (deskC d)], .ptr 2 0] (ofH d m) fun r H' => r = natA (ofM d f set m).1 ∧ H' = ofH d (ofM d f set m).2
theorem ofH_low (d : Dk) (m : List (Int × Nat)) : ∀ x ∈ ofH d m, x.low 3 = true := by
  intro x hx
  simp only [ofH, List.mem_cons, List.not_mem_nil, or_false] at hx
  rcases hx with rfl | rfl | rfl
  · exact low_esA m
  · rfl
  · simp only [Blk.low, ofC, lowL, AV.low, lowDk]; rfl
theorem XCall.of {d : Dk} {f set : Nat} {m : List (Int × Nat)} (x : OfOk d f set m) {H : List Blk} {k : AV → List Blk → Prop} (j : Nat) (h0 : lget H j = some (.map (esA m))) (h1 : lget H (j + 1) = some (.cells [.mp j])) (h2 : lget H (j + 2) = some (.cells [ofC d j]))
    (hk : k (natA (ofM d f set m).1) (H.set j (.map (esA (ofM d f set m).2)))) : XCall Try.prog 132 [natA set, .ptr (j + 1) 0, .pim [.pim (deskC d)], .ptr (j + 2) 0] H k := by
  constructor
  have e := ACall.frame (ρ := fun i => j + i) (H := H) (k := k) x (fun a b _ _ h => by have : j + a = j + b := h; omega) ?_ (ofH_low d m) ?_ ?_
  · have hd : renL (fun i => j + i) (deskC d) = deskC d := renL_low0 (lowDk d)
    simp only [List.map_cons, List.map_nil, natA, AV.ren, renL, hd] at e
    exact e
  · intro i x1 hi
    rw [lget_eq] at h0 h1 h2
    rcases i with _ | _ | _ | i
    · simp only [ofH, List.getElem?_cons_zero, Option.some.injEq] at hi; subst hi
      rw [ren_esA]; exact h0
    · simp only [ofH, List.getElem?_cons_succ, List.getElem?_cons_zero, Option.some.injEq] at hi; subst hi
      exact h1
    · simp only [ofH, List.getElem?_cons_succ, List.getElem?_cons_zero, Option.some.injEq] at hi; subst hi
      simp only [Blk.ren, renL, ofC, AV.ren, renL_low0 (lowDk d)]
      exact h2
    · simp [ofH] at hi
  · simp only [ofH, List.length_cons, List.length_nil, lowL, AV.low, natA, lowDk]; rfl
  · rintro r1 H1' ⟨rfl, rfl⟩
    rw [lget_eq] at h0 h1 h2
    have hj := (List.getElem?_eq_some_iff.1 h0).1
    refine ⟨rfl, H.set j (.map (esA (ofM d f set m).2)), by simp, fun i x1 hi => ?_, fun q hq => ?_, hk⟩
    · rcases i with _ | _ | _ | i
      · simp only [ofH, List.getElem?_cons_zero, Option.some.injEq] at hi; subst hi
        rw [ren_esA]; simp [hj]
      · simp only [ofH, List.getElem?_cons_succ, List.getElem?_cons_zero, Option.some.injEq] at hi; subst hi
        rw [List.getElem?_set_ne (by simp)]; exact h1
      · simp only [ofH, List.getElem?_cons_succ, List.getElem?_cons_zero, Option.some.injEq] at hi; subst hi
        rw [List.getElem?_set_ne (by simp)]
        simp only [Blk.ren, renL, ofC, AV.ren, renL_low0 (lowDk d)]
        exact h2
      · simp [ofH] at hi
    · exact List.getElem?_set_ne (by have := hq 0 (by simp [ofH]); simpa using this)

theorem of_c (d : Dk) (ok : DkFull d) : ∀ (f set : Nat) (m : List (Int × Nat)), set < f → set < 512 → MOk m → OfOk d f set m
  | 0, set, m, hf, _, _ => by omega
  | f + 1, set, m, hf, hs, hM => by
    have h0 := hM.z
    unfold OfOk
    refine ACall.bodyK (T := tab) (res := [.tmp 5]) tab_ok [] Try.func132 rfl (by kernel_rfl) Try.ntmps132 rfl (by simp only [List.length_cons, List.length_nil]; decide) ?_; conv => whnf
    constructor
    rw [mget_esA]
    cases hl : look (set : Int) m with
    | some v =>
      conv => whnf
      repeat' first
          | ((with_reducible apply XBr.tt); conv => whnf)
          | ((with_reducible apply XBr.ff); conv => whnf)
          | (with_reducible apply XBr.not)
          | ((with_reducible apply XBr.dec) <;> (intro h; first | (exfalso; omega) | ((try simp only [List.length_map] at h); first | (exfalso; omega) | (conv => whnf))))
          | ((with_reducible apply XBr.beq) <;> (intro h; first | (exfalso; omega) | (conv => whnf)))
          | ((with_reducible apply XBr.bne) <;> (intro h; first | (exfalso; omega) | (conv => whnf)))
          | ((with_reducible refine XInt.i64 (by omega) (by omega) ?_); conv => whnf)
          | ((with_reducible refine XHold.mk ?_ ?_); (first | omega | rfl | decide | exact ⟨rfl, by decide, rfl⟩ | exact wideI _ | exact widePr _ | exact wideSk _ | (unfold Room; constructor <;> ((try simp) <;> omega)) | exact ⟨rfl, by simp only [List.length_map], by unfold Room; constructor <;> ((try simp) <;> omega)⟩ | exact ⟨by omega, by omega, by unfold Room; constructor <;> ((try simp) <;> omega)⟩); conv => whnf)
          | ((with_reducible refine XIx.nat ?_ ?_ ?_); omega; (intro _; rfl); conv => whnf)
          | ((with_reducible refine XIx.map ?_ ?_ ?_ ?_); omega; omega; (intro _; rfl); conv => whnf)
          | (with_reducible apply XAnd.mk)
          | ((with_reducible apply Chk.go); conv => whnf)
          | ((with_reducible apply ChkA.go); conv => whnf)
          | ((with_reducible apply ChkF.go); conv => whnf)
          | ((with_reducible apply ChkB.go); conv => whnf)
          | (exact XSame.mk rfl rfl)
          | (exact XSame.mk (by first | rfl | (simp only [List.map_append, List.length_append, List.length_map]; done) | (simp only [List.map_append, List.length_append, List.length_map]; rfl)) (by first | rfl | (simp only [List.map_append]; done) | (simp only [List.map_append]; rfl)))
          | (with_reducible exact trivial)
          | ((with_reducible refine xdrop_app (by rw [List.length_map]; omega) ?_); conv => whnf)
          | ((with_reducible refine XArr.ints (by omega) (by omega) (by omega) ?_); conv => whnf)
          | ((with_reducible refine XArr.intsA (by omega) (by omega) (by omega) ?_); conv => whnf)
          | ((with_reducible refine XArr.nats ?_ ?_ ?_); omega; omega; conv => whnf)
          | ((with_reducible refine XArr.natsA ?_ ?_ ?_); omega; omega; conv => whnf)
          | ((with_reducible apply XArr.pim0); conv => whnf)
          | ((with_reducible apply XArr.pim1); conv => whnf)
          | ((with_reducible refine XArr.ptr ?_ ?_ ?_); omega; omega; conv => whnf)
          | ((with_reducible apply XBr.mk') <;> (intro h; conv => whnf))
      refine XCut.mk' (ofH d m) [.cells [natA v]] rfl rfl (ofH_low d m) rfl ?_
      rw [ofM_succ, hl]; exact ⟨rfl, rfl⟩
    | none =>
      conv => whnf
      repeat' first
          | ((with_reducible apply XBr.tt); conv => whnf)
          | ((with_reducible apply XBr.ff); conv => whnf)
          | (with_reducible apply XBr.not)
          | ((with_reducible apply XBr.dec) <;> (intro h; first | (exfalso; omega) | ((try simp only [List.length_map] at h); first | (exfalso; omega) | (conv => whnf))))
          | ((with_reducible apply XBr.beq) <;> (intro h; first | (exfalso; omega) | (conv => whnf)))
          | ((with_reducible apply XBr.bne) <;> (intro h; first | (exfalso; omega) | (conv => whnf)))
          | ((with_reducible refine XInt.i64 (by omega) (by omega) ?_); conv => whnf)
          | ((with_reducible refine XHold.mk ?_ ?_); (first | omega | rfl | decide | exact ⟨rfl, by decide, rfl⟩ | exact wideI _ | exact widePr _ | exact wideSk _ | (unfold Room; constructor <;> ((try simp) <;> omega)) | exact ⟨rfl, by simp only [List.length_map], by unfold Room; constructor <;> ((try simp) <;> omega)⟩ | exact ⟨by omega, by omega, by unfold Room; constructor <;> ((try simp) <;> omega)⟩); conv => whnf)
          | ((with_reducible refine XIx.nat ?_ ?_ ?_); omega; (intro _; rfl); conv => whnf)
          | ((with_reducible refine XIx.map ?_ ?_ ?_ ?_); omega; omega; (intro _; rfl); conv => whnf)
          | (with_reducible apply XAnd.mk)
          | ((with_reducible apply Chk.go); conv => whnf)
          | ((with_reducible apply ChkA.go); conv => whnf)
          | ((with_reducible apply ChkF.go); conv => whnf)
          | ((with_reducible apply ChkB.go); conv => whnf)
          | (exact XSame.mk rfl rfl)
          | (exact XSame.mk (by first | rfl | (simp only [List.map_append, List.length_append, List.length_map]; done) | (simp only [List.map_append, List.length_append, List.length_map]; rfl)) (by first | rfl | (simp only [List.map_append]; done) | (simp only [List.map_append]; rfl)))
          | (with_reducible exact trivial)
          | ((with_reducible refine xdrop_app (by rw [List.length_map]; omega) ?_); conv => whnf)
          | ((with_reducible refine XArr.ints (by omega) (by omega) (by omega) ?_); conv => whnf)
          | ((with_reducible refine XArr.intsA (by omega) (by omega) (by omega) ?_); conv => whnf)
          | ((with_reducible refine XArr.nats ?_ ?_ ?_); omega; omega; conv => whnf)
          | ((with_reducible refine XArr.natsA ?_ ?_ ?_); omega; omega; conv => whnf)
          | ((with_reducible apply XArr.pim0); conv => whnf)
          | ((with_reducible apply XArr.pim1); conv => whnf)
          | ((with_reducible refine XArr.ptr ?_ ?_ ?_); omega; omega; conv => whnf)
          | ((with_reducible apply XBr.mk') <;> (intro h; conv => whnf))
      refine XCall.ret (carts_c d set) ?_
      conv => whnf
      refine Walk.range (own := []) tab_ok [(3, .ptr 2 0), (4, .pim [natA set]), (6, .ptr 3 0)] rfl ⟨rfl, rfl, rfl, trivial⟩ ?_
      intro fn
      refine carts1_c d ok set 5 hs _ _ ?_
      have hpos : 0 < set := by
        rcases Nat.eq_zero_or_pos set with e | e
        · subst e; rw [show ((0 : Nat) : Int) = 0 from rfl, h0] at hl; cases hl
        · exact e
      refine IterOk.go (S := Nat × List (Int × Nat)) (fun H s => (H.set 0 (.map (esA s.2))).set 3 (.cells [natA s.1])) (ofStep d f set) (fun s cs => s.1 ≤ 10 ∧ MOk s.2 ∧ ∀ c ∈ cs, diff set c < set ∧ c < 512) (10, m) rfl ?_ ⟨Nat.le_refl 10, hM, fun c hc => carts_lt d hpos hs hc⟩ ?_
      · rintro ⟨n, m'⟩ c cs ⟨g0, g1, g2⟩
        dsimp only at g0 g1 g2 ⊢
        have hc := (g2 c List.mem_cons_self).1
        have hc512 : c < 9223372036854775808 := by have := (g2 c List.mem_cons_self).2; omega
        refine ⟨XYield.go (own := []) tab_ok rfl rfl (by decide) ?_, ?_⟩
        · intro ρ
          conv => whnf
          have e1 : iandn .i64 (set : Int) (c : Int) = ((diff set c : Nat) : Int) := iandn_nat (by omega) hc512
          have hof := of_c d ok f (diff set c) m' (by omega) (by omega) g1
          obtain ⟨q1, q2⟩ := ofM_ok d f (diff set c) m' g1
          generalize hq : ofM d f (diff set c) m' = q at q1 q2
          apply Walk.drawX tab_ok mixed_ok [] [5, 8] (hsV _ [id, fun H => H.set 0 (.map (esA q.2)), fun H => (H.set 0 (.map (esA q.2))).set 3 (.cells [natA (min n (q.1 + 1))])])
            [natA n, ofC d 0, natA set, natA c, natA (diff set c), natA q.1, natA (q.1 + 1), natA (min n (q.1 + 1)), _] (by kernel_rfl) rfl
          · skip
            repeat' first
                | ((with_reducible apply XBr.tt); conv => whnf)
                | ((with_reducible apply XBr.ff); conv => whnf)
                | (with_reducible apply XBr.not)
                | ((with_reducible apply XBr.dec) <;> (intro h; first | (exfalso; omega) | ((try simp only [List.length_map] at h); first | (exfalso; omega) | (conv => whnf))))
                | ((with_reducible apply XBr.beq) <;> (intro h; first | (exfalso; omega) | (conv => whnf)))
                | ((with_reducible apply XBr.bne) <;> (intro h; first | (exfalso; omega) | (conv => whnf)))
                | ((with_reducible refine XInt.i64 (by omega) (by omega) ?_); conv => whnf)
                | ((with_reducible refine XHold.mk ?_ ?_); (first | omega | rfl | decide | exact ⟨rfl, by decide, rfl⟩ | exact wideI _ | exact widePr _ | exact wideSk _ | (unfold Room; constructor <;> ((try simp) <;> omega)) | exact ⟨rfl, by simp only [List.length_map], by unfold Room; constructor <;> ((try simp) <;> omega)⟩ | exact ⟨by omega, by omega, by unfold Room; constructor <;> ((try simp) <;> omega)⟩); conv => whnf)
                | ((with_reducible refine XIx.nat ?_ ?_ ?_); omega; (intro _; rfl); conv => whnf)
                | ((with_reducible refine XIx.map ?_ ?_ ?_ ?_); omega; omega; (intro _; rfl); conv => whnf)
                | (with_reducible apply XAnd.mk)
                | ((with_reducible apply Chk.go); conv => whnf)
                | ((with_reducible apply ChkA.go); conv => whnf)
                | ((with_reducible apply ChkF.go); conv => whnf)
                | ((with_reducible apply ChkB.go); conv => whnf)
                | (exact XSame.mk rfl rfl)
                | (exact XSame.mk (by first | rfl | (simp only [List.map_append, List.length_append, List.length_map]; done) | (simp only [List.map_append, List.length_append, List.length_map]; rfl)) (by first | rfl | (simp only [List.map_append]; done) | (simp only [List.map_append]; rfl)))
                | (with_reducible exact trivial)
                | ((with_reducible refine xdrop_app (by rw [List.length_map]; omega) ?_); conv => whnf)
                | ((with_reducible refine XArr.ints (by omega) (by omega) (by omega) ?_); conv => whnf)
                | ((with_reducible refine XArr.intsA (by omega) (by omega) (by omega) ?_); conv => whnf)
                | ((with_reducible refine XArr.nats ?_ ?_ ?_); omega; omega; conv => whnf)
                | ((with_reducible refine XArr.natsA ?_ ?_ ?_); omega; omega; conv => whnf)
                | ((with_reducible apply XArr.pim0); conv => whnf)
                | ((with_reducible apply XArr.pim1); conv => whnf)
                | ((with_reducible refine XArr.ptr ?_ ?_ ?_); omega; omega; conv => whnf)
                | (exact XSame.mk (congrArg (AV.int .i64) e1) rfl)
                | ((refine XCall.of hof 0 rfl rfl rfl ?_); rw [hq]; conv => whnf)
                | (exact XSame.mk (congrArg (AV.int .i64) (by omega)) rfl)
                | ((with_reducible apply XBr.mk') <;> (intro h; conv => whnf))
          · skip
            repeat' first
                | ((with_reducible apply XBr.tt); conv => whnf)
                | ((with_reducible apply XBr.ff); conv => whnf)
                | (with_reducible apply XBr.not)
                | ((with_reducible apply XBr.dec) <;> (intro h; first | (exfalso; omega) | ((try simp only [List.length_map] at h); first | (exfalso; omega) | (conv => whnf))))
                | ((with_reducible apply XBr.beq) <;> (intro h; first | (exfalso; omega) | (conv => whnf)))
                | ((with_reducible apply XBr.bne) <;> (intro h; first | (exfalso; omega) | (conv => whnf)))
                | ((with_reducible refine XInt.i64 (by omega) (by omega) ?_); conv => whnf)
                | ((with_reducible refine XHold.mk ?_ ?_); (first | omega | rfl | decide | exact ⟨rfl, by decide, rfl⟩ | exact wideI _ | exact widePr _ | exact wideSk _ | (unfold Room; constructor <;> ((try simp) <;> omega)) | exact ⟨rfl, by simp only [List.length_map], by unfold Room; constructor <;> ((try simp) <;> omega)⟩ | exact ⟨by omega, by omega, by unfold Room; constructor <;> ((try simp) <;> omega)⟩); conv => whnf)
                | ((with_reducible refine XIx.nat ?_ ?_ ?_); omega; (intro _; rfl); conv => whnf)
                | ((with_reducible refine XIx.map ?_ ?_ ?_ ?_); omega; omega; (intro _; rfl); conv => whnf)
                | (with_reducible apply XAnd.mk)
                | ((with_reducible apply Chk.go); conv => whnf)
                | ((with_reducible apply ChkA.go); conv => whnf)
                | ((with_reducible apply ChkF.go); conv => whnf)
                | ((with_reducible apply ChkB.go); conv => whnf)
                | (exact XSame.mk rfl rfl)
                | (exact XSame.mk (by first | rfl | (simp only [List.map_append, List.length_append, List.length_map]; done) | (simp only [List.map_append, List.length_append, List.length_map]; rfl)) (by first | rfl | (simp only [List.map_append]; done) | (simp only [List.map_append]; rfl)))
                | (with_reducible exact trivial)
                | ((with_reducible refine xdrop_app (by rw [List.length_map]; omega) ?_); conv => whnf)
                | ((with_reducible refine XArr.ints (by omega) (by omega) (by omega) ?_); conv => whnf)
                | ((with_reducible refine XArr.intsA (by omega) (by omega) (by omega) ?_); conv => whnf)
                | ((with_reducible refine XArr.nats ?_ ?_ ?_); omega; omega; conv => whnf)
                | ((with_reducible refine XArr.natsA ?_ ?_ ?_); omega; omega; conv => whnf)
                | ((with_reducible apply XArr.pim0); conv => whnf)
                | ((with_reducible apply XArr.pim1); conv => whnf)
                | ((with_reducible refine XArr.ptr ?_ ?_ ?_); omega; omega; conv => whnf)
                | (exact XSame.mk (congrArg (AV.int .i64) e1) rfl)
                | ((refine XCall.of hof 0 rfl rfl rfl ?_); rw [hq]; conv => whnf)
                | (exact XSame.mk (congrArg (AV.int .i64) (by omega)) rfl)
                | ((with_reducible apply XBr.mk') <;> (intro h; conv => whnf))
          · conv => whnf
            repeat' first
                | ((with_reducible apply XBr.tt); conv => whnf)
                | ((with_reducible apply XBr.ff); conv => whnf)
                | (with_reducible apply XBr.not)
                | ((with_reducible apply XBr.dec) <;> (intro h; first | (exfalso; omega) | ((try simp only [List.length_map] at h); first | (exfalso; omega) | (conv => whnf))))
                | ((with_reducible apply XBr.beq) <;> (intro h; first | (exfalso; omega) | (conv => whnf)))
                | ((with_reducible apply XBr.bne) <;> (intro h; first | (exfalso; omega) | (conv => whnf)))
                | ((with_reducible refine XInt.i64 (by omega) (by omega) ?_); conv => whnf)
                | ((with_reducible refine XHold.mk ?_ ?_); (first | omega | rfl | decide | exact ⟨rfl, by decide, rfl⟩ | exact wideI _ | exact widePr _ | exact wideSk _ | (unfold Room; constructor <;> ((try simp) <;> omega)) | exact ⟨rfl, by simp only [List.length_map], by unfold Room; constructor <;> ((try simp) <;> omega)⟩ | exact ⟨by omega, by omega, by unfold Room; constructor <;> ((try simp) <;> omega)⟩); conv => whnf)
                | ((with_reducible refine XIx.nat ?_ ?_ ?_); omega; (intro _; rfl); conv => whnf)
                | ((with_reducible refine XIx.map ?_ ?_ ?_ ?_); omega; omega; (intro _; rfl); conv => whnf)
                | (with_reducible apply XAnd.mk)
                | ((with_reducible apply Chk.go); conv => whnf)
                | ((with_reducible apply ChkA.go); conv => whnf)
                | ((with_reducible apply ChkF.go); conv => whnf)
                | ((with_reducible apply ChkB.go); conv => whnf)
                | (exact XSame.mk rfl rfl)
                | (exact XSame.mk (by first | rfl | (simp only [List.map_append, List.length_append, List.length_map]; done) | (simp only [List.map_append, List.length_append, List.length_map]; rfl)) (by first | rfl | (simp only [List.map_append]; done) | (simp only [List.map_append]; rfl)))
                | (with_reducible exact trivial)
                | ((with_reducible refine xdrop_app (by rw [List.length_map]; omega) ?_); conv => whnf)
                | ((with_reducible refine XArr.ints (by omega) (by omega) (by omega) ?_); conv => whnf)
                | ((with_reducible refine XArr.intsA (by omega) (by omega) (by omega) ?_); conv => whnf)
                | ((with_reducible refine XArr.nats ?_ ?_ ?_); omega; omega; conv => whnf)
                | ((with_reducible refine XArr.natsA ?_ ?_ ?_); omega; omega; conv => whnf)
                | ((with_reducible apply XArr.pim0); conv => whnf)
                | ((with_reducible apply XArr.pim1); conv => whnf)
                | ((with_reducible refine XArr.ptr ?_ ?_ ?_); omega; omega; conv => whnf)
                | ((with_reducible apply XBr.mk') <;> (intro h; conv => whnf))
            subst hq
            exact ⟨rfl, rfl⟩
        · exact ⟨by have := (ofM_ok d f (diff set c) m' g1).1; simp only [ofStep]; omega, (ofM_ok d f (diff set c) m' g1).2, fun c hc => g2 c (List.mem_cons_of_mem _ hc)⟩
      · conv => whnf
        repeat' first
            | ((with_reducible apply XBr.tt); conv => whnf)
            | ((with_reducible apply XBr.ff); conv => whnf)
            | (with_reducible apply XBr.not)
            | ((with_reducible apply XBr.dec) <;> (intro h; first | (exfalso; omega) | ((try simp only [List.length_map] at h); first | (exfalso; omega) | (conv => whnf))))
            | ((with_reducible apply XBr.beq) <;> (intro h; first | (exfalso; omega) | (conv => whnf)))
            | ((with_reducible apply XBr.bne) <;> (intro h; first | (exfalso; omega) | (conv => whnf)))
            | ((with_reducible refine XInt.i64 (by omega) (by omega) ?_); conv => whnf)
            | ((with_reducible refine XHold.mk ?_ ?_); (first | omega | rfl | decide | exact ⟨rfl, by decide, rfl⟩ | exact wideI _ | exact widePr _ | exact wideSk _ | (unfold Room; constructor <;> ((try simp) <;> omega)) | exact ⟨rfl, by simp only [List.length_map], by unfold Room; constructor <;> ((try simp) <;> omega)⟩ | exact ⟨by omega, by omega, by unfold Room; constructor <;> ((try simp) <;> omega)⟩); conv => whnf)
            | ((with_reducible refine XIx.nat ?_ ?_ ?_); omega; (intro _; rfl); conv => whnf)
            | ((with_reducible refine XIx.map ?_ ?_ ?_ ?_); omega; omega; (intro _; rfl); conv => whnf)
            | (with_reducible apply XAnd.mk)
            | ((with_reducible apply Chk.go); conv => whnf)
            | ((with_reducible apply ChkA.go); conv => whnf)
            | ((with_reducible apply ChkF.go); conv => whnf)
            | ((with_reducible apply ChkB.go); conv => whnf)
            | (exact XSame.mk rfl rfl)
            | (exact XSame.mk (by first | rfl | (simp only [List.map_append, List.length_append, List.length_map]; done) | (simp only [List.map_append, List.length_append, List.length_map]; rfl)) (by first | rfl | (simp only [List.map_append]; done) | (simp only [List.map_append]; rfl)))
            | (with_reducible exact trivial)
            | ((with_reducible refine xdrop_app (by rw [List.length_map]; omega) ?_); conv => whnf)
            | ((with_reducible refine XArr.ints (by omega) (by omega) (by omega) ?_); conv => whnf)
            | ((with_reducible refine XArr.intsA (by omega) (by omega) (by omega) ?_); conv => whnf)
            | ((with_reducible refine XArr.nats ?_ ?_ ?_); omega; omega; conv => whnf)
            | ((with_reducible refine XArr.natsA ?_ ?_ ?_); omega; omega; conv => whnf)
            | ((with_reducible apply XArr.pim0); conv => whnf)
            | ((with_reducible apply XArr.pim1); conv => whnf)
            | ((with_reducible refine XArr.ptr ?_ ?_ ?_); omega; omega; conv => whnf)
            | ((with_reducible apply XBr.mk') <;> (intro h; conv => whnf))
        refine ⟨ofH d (putm set ((cartsL d set).foldl (ofStep d f set) (10, m)).1 ((cartsL d set).foldl (ofStep d f set) (10, m)).2), [.cells [natA ((cartsL d set).foldl (ofStep d f set) (10, m)).1], .raw (.deferred (some [])), .dead], ?_, rfl, ofH_low d _, by simp, ?_, rfl, ?_⟩
        · rw [show mput (set : Int) (natA _) (esA _) = _ from mput_esA _ _ _]; rfl
        · intro i hi; simp at hi; subst hi; exact ⟨by simp [ofH], rfl⟩
        · rw [ofM_succ, hl]; exact ⟨rfl, rfl⟩
end GA
