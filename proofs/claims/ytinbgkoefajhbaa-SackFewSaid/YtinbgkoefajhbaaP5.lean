/- Part 5 of a proof: K1c, K1d, K1e. -/
import Derived.Test.YtinbgkoefajhbaaP4
section
namespace GA
open Go Go.RowKit Go.Proofs
set_option pp.deepTerms true
set_option maxRecDepth 8000
set_option linter.unusedVariables false
set_option linter.unusedSimpArgs false
theorem IterOk.run {P : Program} {i : Nat} {H : List Blk} {K : List Blk → Prop} {S : Type} (upd : List Blk → S → List Blk) (step : S → Nat → S) (I : S → List Nat → Prop)
    (x : ∀ s c cs, I s (c :: cs) → XYield P i [natA c] (upd H s) (fun r H' => r = .bool true ∧ H' = upd H (step s c)) ∧ I (step s c) cs) :
    ∀ (cs : List Nat) (s : S), I s cs → K (upd H (cs.foldl step s)) → IterOk P i K cs (upd H s)
  | [], s, _, hk => hk
  | c :: cs, s, hI, hk => by
    obtain ⟨h1, h2⟩ := x s c cs hI
    refine ⟨AYield.mono h1.o ?_⟩
    rintro r H' ⟨rfl, rfl⟩
    exact .inl ⟨rfl, IterOk.run upd step I x cs _ h2 hk⟩
theorem IterOk.go {P : Program} {i : Nat} {H : List Blk} {K : List Blk → Prop} {S : Type} {cs : List Nat} (upd : List Blk → S → List Blk) (step : S → Nat → S) (I : S → List Nat → Prop) (s0 : S) (hH : upd H s0 = H)
    (x : ∀ s c cs, I s (c :: cs) → XYield P i [natA c] (upd H s) (fun r H' => r = .bool true ∧ H' = upd H (step s c)) ∧ I (step s c) cs) (hI : I s0 cs) (hk : K (upd H (cs.foldl step s0))) : IterOk P i K cs H := by
  have := IterOk.run upd step I x cs s0 hI hk
  rwa [hH] at this
def ofM (d : Dk) : Nat → Nat → List (Int × Nat) → Nat × List (Int × Nat)
  | 0, _, m => (0, m)
  | f + 1, set, m => match look set m with
    | some v => (v, m)
    | none =>
      let r := (cartsL d set).foldl (fun (p : Nat × List (Int × Nat)) c => (min p.1 ((ofM d f (diff set c) p.2).1 + 1), (ofM d f (diff set c) p.2).2)) (10, m)
      (r.1, putm set r.1 r.2)
def ofStep (d : Dk) (f set : Nat) (p : Nat × List (Int × Nat)) (c : Nat) : Nat × List (Int × Nat) := (min p.1 ((ofM d f (diff set c) p.2).1 + 1), (ofM d f (diff set c) p.2).2)
theorem ofM_succ (d : Dk) (f set : Nat) (m : List (Int × Nat)) : ofM d (f + 1) set m = match look set m with
    | some v => (v, m)
    | none => (((cartsL d set).foldl (ofStep d f set) (10, m)).1, putm set ((cartsL d set).foldl (ofStep d f set) (10, m)).1 ((cartsL d set).foldl (ofStep d f set) (10, m)).2) := rfl

structure MOk (m : List (Int × Nat)) : Prop where
  z : look 0 m = some 0
  le : ∀ k v, look k m = some v → v ≤ 10
theorem ofM_ok (d : Dk) : ∀ (f set : Nat) (m : List (Int × Nat)), MOk m → (ofM d f set m).1 ≤ 10 ∧ MOk (ofM d f set m).2
  | 0, set, m, h => ⟨by simp [ofM], h⟩
  | f + 1, set, m, h => by
    rw [ofM_succ]
    cases hl : look (set : Int) m with
    | some v => exact ⟨h.le _ _ hl, h⟩
    | none =>
      have fold : ∀ (cs : List Nat) (p : Nat × List (Int × Nat)), p.1 ≤ 10 → MOk p.2 → (cs.foldl (ofStep d f set) p).1 ≤ 10 ∧ MOk (cs.foldl (ofStep d f set) p).2 := by
        intro cs
        induction cs with
        | nil => intro p h1 h2; exact ⟨h1, h2⟩
        | cons c cs ih =>
          intro p h1 h2
          rw [List.foldl_cons]
          obtain ⟨h3, h4⟩ := ofM_ok d f (diff set c) p.2 h2
          exact ih _ (by simp only [ofStep]; omega) h4
      obtain ⟨h1, h2⟩ := fold (cartsL d set) (10, m) (Nat.le_refl 10) h
      have hne : (0 : Int) ≠ set := fun e => by rw [← e, h.z] at hl; cases hl
      refine ⟨h1, by rw [look_put, if_neg hne]; exact h2.z, fun k v e => ?_⟩
      rw [look_put] at e
      split at e
      · cases e; exact h1
      · exact h2.le k v e
theorem diff_bit (a b i : Nat) : (diff a b).testBit i = (a.testBit i && !b.testBit i) := by
  unfold diff; simp only [Nat.testBit_xor, Nat.testBit_and]
  cases a.testBit i <;> cases b.testBit i <;> rfl
def Sub (a b : Nat) : Prop := ∀ i, a.testBit i = true → b.testBit i = true
theorem Sub.le {a b : Nat} (h : Sub a b) : a ≤ b := by
  have : a &&& b = a := by
    apply Nat.eq_of_testBit_eq; intro i; rw [Nat.testBit_and]
    cases e : a.testBit i
    · rfl
    · rw [h i e]; rfl
  rw [← this]; exact Nat.and_le_right
theorem lowb_sub (s : Nat) : Sub (lowb s) s := fun i h => by unfold lowb at h; rw [diff_bit, Bool.and_eq_true] at h; exact h.1
theorem lowb_pos_all : ∀ s : Fin 512, s.val ≠ 0 → lowb s.val ≠ 0 := by decide +kernel
theorem lowb_pos {s : Nat} (h0 : 0 < s) (h : s < 512) : lowb s ≠ 0 := lowb_pos_all ⟨s, h⟩ (by simp only; omega)
theorem cartsF_mem (d : Dk) (set : Nat) : ∀ (f rest : Nat), Sub rest (diff set (lowb set)) → ∀ c ∈ cartsF d set f rest, ∃ r, c = r ||| lowb set ∧ Sub r (diff set (lowb set)) ∧ rightB d c = true
  | 0, _, _, c, hc => by simp [cartsF] at hc
  | f + 1, rest, hr, c, hc => by
    rw [cartsF_succ, List.mem_append] at hc
    rcases hc with hc | hc
    · split at hc
      · rename_i h; simp only [List.mem_singleton] at hc; subst hc; exact ⟨rest, rfl, hr, h⟩
      · simp at hc
    · split at hc
      · simp at hc
      · refine cartsF_mem d set f _ (fun i hi => ?_) c hc
        rw [diff_bit, Nat.testBit_and, Bool.and_eq_true, Bool.and_eq_true] at hi
        rw [diff_bit, hi.1.2, hi.2]; rfl
theorem carts_sub (d : Dk) {set c : Nat} (hc : c ∈ cartsL d set) : Sub c set ∧ Sub (lowb set) c ∧ rightB d c = true := by
  obtain ⟨r, rfl, h1, h2⟩ := cartsF_mem d set 512 _ (fun i h => h) c hc
  refine ⟨fun i h => ?_, fun i h => by rw [Nat.testBit_or, h, Bool.or_true], h2⟩
  rw [Nat.testBit_or, Bool.or_eq_true] at h
  rcases h with h | h
  · have := h1 i h; rw [diff_bit, Bool.and_eq_true] at this; exact this.1
  · exact lowb_sub set i h
theorem diff_lt {set c : Nat} (h0 : 0 < set) (h9 : set < 512) (hl : Sub (lowb set) c) : diff set c < set := by
  have h1 := diff_le set c
  rcases Nat.lt_or_ge (diff set c) set with h | h
  · exact h
  · exfalso
    have he : diff set c = set := by omega
    apply lowb_pos h0 h9
    apply Nat.eq_of_testBit_eq; intro i
    rw [Nat.zero_testBit]
    cases hb : (lowb set).testBit i
    · rfl
    · have h2 := hl i hb
      have h3 := lowb_sub set i hb
      have h4 := diff_bit set c i
      rw [he, h2, h3] at h4; cases h4
theorem carts_lt (d : Dk) {set c : Nat} (hs : 0 < set) (h9 : set < 512) (hc : c ∈ cartsL d set) : diff set c < set ∧ c < 512 := by
  obtain ⟨h1, h2, _⟩ := carts_sub d hc
  exact ⟨diff_lt hs h9 h2, by have := h1.le; omega⟩

def ofC (d : Dk) (j : Nat) : AV := .fn 104 [.ptr (j + 1) 0, .pim [.pim (deskC d)], .ptr (j + 2) 0]
def ofH (d : Dk) (m : List (Int × Nat)) : List Blk := [.map (esA m), .cells [.mp 0], .cells [ofC d 0]]
def OfOk (d : Dk) (f set : Nat) (m : List (Int × Nat)) : Prop :=
  ACall Try.prog 104 [natA set, .ptr 1 0, .pim [.pim (deskC d)], .ptr 2 0] (ofH d m) fun r H' => r = natA (ofM d f set m).1 ∧ H' = ofH d (ofM d f set m).2
theorem ofH_low (d : Dk) (m : List (Int × Nat)) : ∀ x ∈ ofH d m, x.low 3 = true := by
  intro x hx
  simp only [ofH, List.mem_cons, List.not_mem_nil, or_false] at hx
  rcases hx with rfl | rfl | rfl
  · exact low_esA m
  · rfl
  · simp only [Blk.low, ofC, lowL, AV.low, lowDk]; rfl
theorem XCall.of {d : Dk} {f set : Nat} {m : List (Int × Nat)} (x : OfOk d f set m) {H : List Blk} {k : AV → List Blk → Prop} (j : Nat) (h0 : lget H j = some (.map (esA m))) (h1 : lget H (j + 1) = some (.cells [.mp j])) (h2 : lget H (j + 2) = some (.cells [ofC d j]))
    (hk : k (natA (ofM d f set m).1) (H.set j (.map (esA (ofM d f set m).2)))) : XCall Try.prog 104 [natA set, .ptr (j + 1) 0, .pim [.pim (deskC d)], .ptr (j + 2) 0] H k := by
  constructor
  have e := ACall.frame (ρ := fun i => j + i) (H := H) (k := k) x (fun a b _ _ h => by have : j + a = j + b := h; omega) ?_ (ofH_low d m) ?_ ?_
  · have hd : renL (fun i => j + i) (deskC d) = deskC d := renL_low0 (lowDk d)
    simp only [List.map_cons, List.map_nil, natA, AV.ren, renL, hd] at e
    exact e
  · intro i x1 hi
    rw [lget_eq] at h0 h1 h2
    rcases i with _ | _ | _ | i
    · simp only [ofH, List.getElem?_cons_zero, Option.some.injEq] at hi; subst hi
      rw [ren_esA]; exact h0
    · simp only [ofH, List.getElem?_cons_succ, List.getElem?_cons_zero, Option.some.injEq] at hi; subst hi
      exact h1
    · simp only [ofH, List.getElem?_cons_succ, List.getElem?_cons_zero, Option.some.injEq] at hi; subst hi
      simp only [Blk.ren, renL, ofC, AV.ren, renL_low0 (lowDk d)]
      exact h2
    · simp [ofH] at hi
  · simp only [ofH, List.length_cons, List.length_nil, lowL, AV.low, natA, lowDk]; rfl
  · rintro r1 H1' ⟨rfl, rfl⟩
    rw [lget_eq] at h0 h1 h2
    have hj := (List.getElem?_eq_some_iff.1 h0).1
    refine ⟨rfl, H.set j (.map (esA (ofM d f set m).2)), by simp, fun i x1 hi => ?_, fun q hq => ?_, hk⟩
    · rcases i with _ | _ | _ | i
      · simp only [ofH, List.getElem?_cons_zero, Option.some.injEq] at hi; subst hi
        rw [ren_esA]; simp [hj]
      · simp only [ofH, List.getElem?_cons_succ, List.getElem?_cons_zero, Option.some.injEq] at hi; subst hi
        rw [List.getElem?_set_ne (by simp)]; exact h1
      · simp only [ofH, List.getElem?_cons_succ, List.getElem?_cons_zero, Option.some.injEq] at hi; subst hi
        rw [List.getElem?_set_ne (by simp)]
        simp only [Blk.ren, renL, ofC, AV.ren, renL_low0 (lowDk d)]
        exact h2
      · simp [ofH] at hi
    · exact List.getElem?_set_ne (by have := hq 0 (by simp [ofH]); simpa using this)

theorem of_c (d : Dk) (ok : DkFull d) : ∀ (f set : Nat) (m : List (Int × Nat)), set < f → set < 512 → MOk m → OfOk d f set m
  | 0, set, m, hf, _, _ => by omega
  | f + 1, set, m, hf, hs, hM => by
    have h0 := hM.z
    unfold OfOk
    refine ACall.bodyK (T := tab) (res := [.tmp 5]) tab_ok [] Try.func104 rfl (by kernel_rfl) Try.ntmps104 rfl (by simp only [List.length_cons, List.length_nil]; decide) ?_; conv => whnf
    refine XGetM.mk' (mget_esA _ _) ?_
    cases hl : look (set : Int) m with
    | some v =>
      conv => whnf
      repeat' first | ((with_reducible apply XBr.tt); conv => whnf) | (with_reducible apply XBr.not) | fail
      refine XCut.mk' (ofH d m) [.cells [natA v]] rfl rfl (ofH_low d m) rfl ?_
      rw [ofM_succ, hl]; exact ⟨rfl, rfl⟩
    | none =>
      conv => whnf
      repeat' first | ((with_reducible apply XBr.ff); conv => whnf) | (with_reducible apply XBr.not) | fail
      refine XCall.ret (carts_c d set) ?_
      conv => whnf
      refine Walk.range (own := []) tab_ok [(3, .ptr 2 0), (4, .pim [natA set]), (6, .ptr 3 0)] rfl ⟨rfl, rfl, rfl, trivial⟩ ?_
      intro fn
      refine carts1_c d ok set 5 hs _ _ ?_
      have hpos : 0 < set := by
        rcases Nat.eq_zero_or_pos set with e | e
        · subst e; rw [show ((0 : Nat) : Int) = 0 from rfl, h0] at hl; cases hl
        · exact e
      refine IterOk.go (S := Nat × List (Int × Nat)) (fun H s => (H.set 0 (.map (esA s.2))).set 3 (.cells [natA s.1])) (ofStep d f set) (fun s cs => s.1 ≤ 10 ∧ MOk s.2 ∧ ∀ c ∈ cs, diff set c < set ∧ c < 512) (10, m) rfl ?_ ⟨Nat.le_refl 10, hM, fun c hc => carts_lt d hpos hs hc⟩ ?_
      · rintro ⟨n, m'⟩ c cs ⟨g0, g1, g2⟩
        dsimp only at g0 g1 g2 ⊢
        have hc := (g2 c List.mem_cons_self).1
        have hc512 : c < 9223372036854775808 := by have := (g2 c List.mem_cons_self).2; omega
        refine ⟨XYield.go (own := []) tab_ok rfl rfl (by decide) ?_, ?_⟩
        · intro ρ
          conv => whnf
          have e1 : iandn .i64 (set : Int) (c : Int) = ((diff set c : Nat) : Int) := iandn_nat (by omega) hc512
          have hof := of_c d ok f (diff set c) m' (by omega) (by omega) g1
          obtain ⟨q1, q2⟩ := ofM_ok d f (diff set c) m' g1
          generalize hq : ofM d f (diff set c) m' = q at q1 q2
          apply Walk.drawX tab_ok mixed_ok [] [5, 8] (hsV _ [id, fun H => H.set 0 (.map (esA q.2)), fun H => (H.set 0 (.map (esA q.2))).set 3 (.cells [natA (min n (q.1 + 1))])])
            [natA n, ofC d 0, natA set, natA c, natA (diff set c), natA q.1, natA (q.1 + 1), natA (min n (q.1 + 1)), _] (by kernel_rfl) rfl
          · skip
            repeat' first | ((with_reducible refine XInt.i64 (by omega) (by omega) ?_); conv => whnf) | (with_reducible apply XAnd.mk) | ((first | (with_reducible apply Chk.go) | (with_reducible apply ChkA.go)); conv => whnf) | (exact XSame.mk rfl rfl) | (with_reducible exact trivial) | (exact XSame.mk (congrArg (AV.int .i64) e1) rfl) | (((refine XCall.of hof 0 rfl rfl rfl ?_); rw [hq]); conv => whnf) | (exact XSame.mk (congrArg (AV.int .i64) (by omega)) rfl) | fail
          · skip
            repeat' first | (with_reducible apply XAnd.mk) | ((first | (with_reducible apply Chk.go) | (with_reducible apply ChkF.go) | (with_reducible apply ChkB.go)); conv => whnf) | (exact XSame.mk rfl rfl) | (with_reducible exact trivial) | (exact XSame.mk (congrArg (AV.int .i64) (by omega)) rfl) | fail
          · conv => whnf
            skip
            subst hq
            exact ⟨rfl, rfl⟩
        · exact ⟨by have := (ofM_ok d f (diff set c) m' g1).1; simp only [ofStep]; omega, (ofM_ok d f (diff set c) m' g1).2, fun c hc => g2 c (List.mem_cons_of_mem _ hc)⟩
      · conv => whnf
        skip
        refine ⟨ofH d (putm set ((cartsL d set).foldl (ofStep d f set) (10, m)).1 ((cartsL d set).foldl (ofStep d f set) (10, m)).2), [.cells [natA ((cartsL d set).foldl (ofStep d f set) (10, m)).1], .raw (.deferred (some [])), .dead], ?_, rfl, ofH_low d _, by simp, ?_, rfl, ?_⟩
        · rw [show mput (set : Int) (natA _) (esA _) = _ from mput_esA _ _ _]; rfl
        · intro i hi; simp at hi; subst hi; exact ⟨by simp [ofH], rfl⟩
        · rw [ofM_succ, hl]; exact ⟨rfl, rfl⟩
abbrev allD (d : Dk) : Nat := 2 ^ d.l.sacks.length - 1
def pickB (d : Dk) (many n left : Nat) (p : Nat × List (Int × Nat)) (c : Nat) : Nat × List (Int × Nat) :=
  (if (ofM d 512 (diff left c) p.2).1 + n + 1 = many ∧ (p.1 = 0 ∨ c &&& lowb (c ^^^ p.1) ≠ 0) then c else p.1, (ofM d 512 (diff left c) p.2).2)
def bestB (d : Dk) (many n left : Nat) (m : List (Int × Nat)) : Nat × List (Int × Nat) := (cartsL d left).foldl (pickB d many n left) (0, m)
def fillB (n : Nat) (out : List Nat) (is : List Int) : List Nat := is.foldl (fun o i => o.set i.toNat n) out
structure LS where
  left : Nat
  m : List (Int × Nat)
  out : List Nat
def loadStep (d : Dk) (many : Nat) (s : LS) (n : Nat) : LS := ⟨diff s.left (bestB d many n s.left s.m).1, (bestB d many n s.left s.m).2, fillB n s.out (bits (bestB d many n s.left s.m).1)⟩
def load0 (d : Dk) : LS := ⟨allD d, (ofM d 512 (allD d) [(0, 0)]).2, List.replicate d.l.sacks.length 0⟩
def loadI (d : Dk) (many n : Nat) : LS := (List.range n).foldl (loadStep d many) (load0 d)
def manyD (d : Dk) : Nat := (ofM d 512 (allD d) [(0, 0)]).1
def fewestD (d : Dk) : AV := if 9 < manyD d then .tup [.sl true [], .int .i64 0, .int .i64 6] else .tup [.sl false (nats (loadI d (manyD d) (manyD d)).out), natA (manyD d), .int .i64 0]
def fewestR (l : Ld) : AV := if checkR l = 0 then fewestD (openD l) else .tup [.sl true [], .int .i64 0, .int .i64 (checkR l)]

theorem MOk.zero : MOk [(0, 0)] := ⟨rfl, fun k v h => by simp only [look] at h; split at h <;> cases h; omega⟩
theorem closeF_len (l : Ld) : ∀ (n : Nat) (b : List Nat), (closeF l n b).length = b.length
  | 0, _ => rfl
  | n + 1, b => by
    show (if joinR l b = b then b else closeF l n (joinR l b)).length = _
    split
    · rfl
    · rw [closeF_len l n, joinR_len]
theorem closeF_small (l : Ld) : ∀ (n : Nat) (b : List Nat), (∀ i, b.getD i 0 < 512) → ∀ i, (closeF l n b).getD i 0 < 512
  | 0, _, h => h
  | n + 1, b, h => by
    show ∀ i, (if joinR l b = b then b else closeF l n (joinR l b)).getD i 0 < 512
    split
    · exact h
    · exact closeF_small l n _ (joinR_small l b h)
theorem openD_full {l : Ld} (o : LdOk l) : DkFull (openD l) where
  hv := hvF_len _ _
  nd := by show (closeF l 5000 _).length = 9; rw [closeF_len, ndI_len]
  small := closeF_small l _ _ (ndI_small _)
  big := fun i => by have := hvF_le o (2 ^ l.sacks.length) i; show (hvF _ _).getD i 0 < _; omega
  al := by show l.apart.length ≤ 1000; have := o.na; omega
  ap := fun p hp => by have := o.ap p hp; have := o.n; omega

theorem pick_ok (d : Dk) (many n left : Nat) : ∀ (cs : List Nat) (p : Nat × List (Int × Nat)), MOk p.2 → (∀ c ∈ cs, Sub c left) → Sub p.1 left → MOk (cs.foldl (pickB d many n left) p).2 ∧ Sub (cs.foldl (pickB d many n left) p).1 left
  | [], p, h1, _, h2 => ⟨h1, h2⟩
  | c :: cs, p, h1, h2, h3 => by
    rw [List.foldl_cons]
    refine pick_ok d many n left cs _ ?_ (fun c hc => h2 c (List.mem_cons_of_mem _ hc)) ?_
    · exact (ofM_ok d 512 (diff left c) p.2 h1).2
    · simp only [pickB]; split
      · exact h2 c List.mem_cons_self
      · exact h3
theorem Sub.zero (a : Nat) : Sub 0 a := fun i h => by rw [Nat.zero_testBit] at h; cases h
theorem best_ok (d : Dk) (many n left : Nat) (m : List (Int × Nat)) (h : MOk m) : MOk (bestB d many n left m).2 ∧ Sub (bestB d many n left m).1 left :=
  pick_ok d many n left _ _ h (fun c hc => (carts_sub d hc).1) (Sub.zero _)
theorem fillB_len (n : Nat) : ∀ (is : List Int) (out : List Nat), (fillB n out is).length = out.length
  | [], _ => rfl
  | i :: is, out => by rw [fillB, List.foldl_cons]; exact (fillB_len n is _).trans (by simp)
structure LSOk (d : Dk) (s : LS) : Prop where
  left : s.left ≤ allD d
  m : MOk s.m
  out : s.out.length = d.l.sacks.length
theorem loadStep_ok (d : Dk) (many : Nat) (s : LS) (n : Nat) (h : LSOk d s) : LSOk d (loadStep d many s n) :=
  ⟨Nat.le_trans (diff_le _ _) h.left, (best_ok d many n s.left s.m h.m).1, by simp only [loadStep, fillB_len]; exact h.out⟩
theorem load0_ok (d : Dk) : LSOk d (load0 d) := ⟨Nat.le_refl _, (ofM_ok d 512 _ _ MOk.zero).2, by simp [load0]⟩
theorem loadI_succ (d : Dk) (many n : Nat) : loadI d many (n + 1) = loadStep d many (loadI d many n) n := by
  unfold loadI; rw [List.range_succ, List.foldl_append]; rfl
theorem loadI_ok (d : Dk) (many : Nat) : ∀ n, LSOk d (loadI d many n)
  | 0 => load0_ok d
  | n + 1 => by rw [loadI_succ]; exact loadStep_ok d many _ n (loadI_ok d many n)

theorem fewest_c (l : Ld) (hw : l.nla = true → l.apart = []) (h1 : l.sacks.length ≤ 100000) (h2 : l.apart.length ≤ 1000) (h3 : l.wth.length ≤ 1000) : Comp Try.prog 25 [ldA l] (fewestR l) := by
  refine Comp.body' (T := tab) (res := [.tmp 2, .tmp 3, .tmp 4]) tab_ok [] Try.func25 rfl (by kernel_rfl) Try.ntmps25 rfl (by simp only [List.length_cons, List.length_nil]; decide) (by simp only [lowL, AV.low, ldL]; rfl) ?_; conv => whnf
  refine XCall.ret (opened_c l hw h1 h2 h3) ?_
  unfold openR fewestR
  by_cases hc : checkR l = 0
  · rw [if_pos hc, if_pos hc]
    have ok := (checkR_ok l).1 hc
    have dok := openD_full ok
    have hn : (openD l).l = l := rfl
    have hall : allD (openD l) < 512 := by have := pow9 ok.n; show 2 ^ l.sacks.length - 1 < 512; omega
    conv => whnf
    repeat' first | ((with_reducible apply XBr.bne) <;> (intro h; first | (exfalso; omega) | (conv => whnf))) | fail
    refine XCall.inl (T := tab) (res := [.cell 2 123]) tab_ok [] Try.func60 rfl (by kernel_rfl) Try.ntmps60 rfl (by simp only [List.length_append, List.length_cons, List.length_nil]; decide) ?_; conv => whnf
    skip
    have hof := of_c _ dok 512 (allD (openD l)) [(0, 0)] hall hall MOk.zero
    have hle := (ofM_ok (openD l) 512 (allD (openD l)) _ MOk.zero).1
    have h0 := load0_ok (openD l)
    generalize hq : ofM (openD l) 512 (allD (openD l)) [(0, 0)] = q at hle
    apply Walk.drawX tab_ok mixed_ok [] [4, 5, 6] (hsW _ [id, fun H => H.set 1 (.map (esA q.2)), fun H => H ++ [.cells [.int .i64 0]], fun H => (H.set 1 (.map (esA q.2))) ++ [.cells [.int .i64 0]], id, id, id, fun H => (H.set 1 (.map (esA q.2))) ++ [.cells [natA q.1]]])
      [_, _, _, natA (allD (openD l)), natA q.1, _, _] (by kernel_rfl) rfl
    · skip
      repeat' first | (with_reducible apply XAnd.mk) | ((first | (with_reducible apply Chk.go) | (with_reducible apply ChkA.go)); conv => whnf) | (exact XSame.mk rfl rfl) | (with_reducible exact trivial) | ((first | (refine XCall.ret (all_c (openD l) ok.n) ?_) | ((refine XCall.of hof 1 rfl rfl rfl ?_); rw [hq])); conv => whnf) | fail
    · skip
      repeat' first | (with_reducible apply XAnd.mk) | ((first | (with_reducible apply Chk.go) | (with_reducible apply ChkF.go) | (with_reducible apply ChkB.go)); conv => whnf) | (exact XSame.mk rfl rfl) | (with_reducible exact trivial) | ((first | (refine XCall.ret (all_c (openD l) ok.n) ?_) | ((refine XCall.of hof 1 rfl rfl rfl ?_); rw [hq])); conv => whnf) | fail
    · conv => whnf
      have hfin : fewestD (openD l) = if 9 < q.1 then .tup [.sl true [], .int .i64 0, .int .i64 6] else .tup [.sl false (nats (loadI (openD l) q.1 q.1).out), natA q.1, .int .i64 0] := by
        unfold fewestD manyD; rw [hq]
      have hI0 : loadI (openD l) q.1 0 = ⟨allD (openD l), q.2, List.replicate l.sacks.length 0⟩ := by
        show load0 (openD l) = _; unfold load0; rw [hq, hn]
      have ha : ∀ x, XCall Try.prog 61 [.pim (deskC (openD l))] x = XCall Try.prog 61 [.pim (deskC (openD l))] x := fun _ => rfl
      have hallc := all_c (openD l) ok.n
      clear h0 hq
      generalize hd : openD l = d at *
      clear hd
      have hdn : d.l.sacks.length = l.sacks.length := by rw [hn]
      repeat' first | ((with_reducible apply XBr.dec) <;> (intro h; first | (exfalso; omega) | ((try simp only [List.length_map] at h); first | (exfalso; omega) | (conv => whnf)))) | ((with_reducible refine XHold.mk ?_ ?_); (first | omega | rfl | decide | exact ⟨rfl, by decide, rfl⟩ | exact wideI _ | exact widePr _ | exact wideSk _ | (unfold Room; constructor <;> ((try simp) <;> omega)) | exact ⟨rfl, by simp only [List.length_map], by unfold Room; constructor <;> ((try simp) <;> omega)⟩ | exact ⟨by omega, by omega, by unfold Room; constructor <;> ((try simp) <;> omega)⟩); conv => whnf) | fail
      · rename_i h
        exact ⟨by rw [hfin, if_pos (by omega)]; exact Froz.low rfl⟩
      · rename_i h
        refine XCall.ret hallc ?_
        conv => whnf
        rw [if_neg (by omega)] at hfin
        refine Walk.loopM tab_ok [] (fun n : Nat => n ≤ q.1) (fun n => [(5, .pim (deskC d)), (7, .ptr 4 0), (8, .ptr 5 0), (9, .gr 6 l.sacks.length), (10, .ptr 7 0), (40, natA q.1), (41, natA n)])
          (fun n => [.cells [ofC d 1], .map (esA (loadI d q.1 n).m), .cells [.mp 1], .cells [ofC d 1], .cells [ofC d 1], .cells [natA q.1], .grow 3 false (nats (loadI d q.1 n).out), .cells [natA (loadI d q.1 n).left]])
          (fun n => q.1 - n) 0 8 (by omega) ?_ rfl ⟨rfl, rfl, rfl, by simp only [List.length_map, Int.toNat_natCast]; rfl, rfl, rfl, rfl, trivial⟩ ?_
        · rw [hI0]
          have e1 : (allD d : Nat) = 2 ^ d.l.sacks.length - 1 := rfl
          simp only [nats, List.map_replicate, e1, List.length_map, Int.toNat_natCast]; rfl
        · intro n hnq
          have sok := loadI_ok d q.1 n
          have hnext := loadI_succ d q.1 n
          generalize hs : loadI d q.1 n = s at sok hnext
          obtain ⟨left, m0, out0⟩ := s
          obtain ⟨k1, k2, k3⟩ := sok
          dsimp only at k1 k2 k3
          have hlen9 := ok.n
          conv => whnf
          repeat' first | ((with_reducible apply XBr.dec) <;> (intro h; first | (exfalso; omega) | ((try simp only [List.length_map] at h); first | (exfalso; omega) | (conv => whnf)))) | fail
          · refine XCall.ret (carts_c d left) ?_
            conv => whnf
            refine Walk.range (own := []) tab_ok [(5, .pim (deskC d)), (7, .ptr 4 0), (8, .ptr 5 0), (10, .ptr 7 0), (11, .ptr 8 0), (12, .ptr 9 0)] rfl ⟨rfl, rfl, rfl, rfl, rfl, rfl, trivial⟩ ?_
            intro fn
            refine carts1_c d dok left 11 (by omega) _ _ ?_
            refine IterOk.go (S := Nat × List (Int × Nat)) (fun H s => (H.set 1 (.map (esA s.2))).set 9 (.cells [natA s.1])) (pickB d q.1 n left) (fun s cs => Sub s.1 left ∧ MOk s.2 ∧ ∀ c ∈ cs, Sub c left) (0, m0) rfl ?_ ⟨Sub.zero _, k2, fun c hc => (carts_sub d hc).1⟩ ?_
            · rintro ⟨b, m'⟩ c cs ⟨g0, g1, g2⟩
              dsimp only at g0 g1 g2 ⊢
              have gc := g2 c List.mem_cons_self
              have gc2 := gc.le
              have g02 := g0.le
              obtain ⟨qq, hqq⟩ : ∃ x, ofM d 512 (diff left c) m' = x := ⟨_, rfl⟩
              have hdl := diff_le left c
              have hof2 := of_c d dok 512 (diff left c) m' (by omega) (by omega) g1
              obtain ⟨q1, q2⟩ := ofM_ok d 512 (diff left c) m' g1
              rw [hqq] at q1 q2
              refine ⟨XYield.go (own := []) tab_ok rfl rfl (by decide) ?_, ?_⟩
              · intro ρ
                have e1 : iandn .i64 (left : Int) (c : Int) = ((diff left c : Nat) : Int) := iandn_nat (by omega) (by omega)
                have e2 : ixor .i64 (c : Int) (b : Int) = ((c ^^^ b : Nat) : Int) := ixor_nat (by omega) (by omega)
                have hx9 : c ^^^ b < 512 := Nat.xor_lt_two_pow (n := 9) (by omega) (by omega)
                have e3 := low_int hx9
                have hlb := lowb_le (c ^^^ b)
                have e4 : iand .i64 (c : Int) ((lowb (c ^^^ b) : Nat) : Int) = ((c &&& lowb (c ^^^ b) : Nat) : Int) := iand_nat (by omega) (by omega)
                have hand : c &&& lowb (c ^^^ b) ≤ c := Nat.and_le_left
                conv => whnf
                by_cases hA : qq.1 + n + 1 = q.1
                · have eA : ((qq.1 : Int) == (q.1 : Int) - (n : Int) - 1) = true := by rw [beq_iff_eq]; omega
                  by_cases hB : b = 0
                  · have eB : ((b : Int) == 0) = true := by rw [beq_iff_eq]; omega
                    have hp : pickB d q.1 n left (b, m') c = (c, qq.2) := by simp only [pickB, hqq]; rw [if_pos ⟨hA, .inl hB⟩]
                    apply Walk.drawX tab_ok mixed_ok [] [5] (hsV _ [id, fun H => H.set 1 (.map (esA qq.2))])
                      [_, _, _, _, natA (diff left c), natA qq.1, _, _, _, _, .bool true, _, _, .bool true, _, _, _, _, _, _, _, _, _, _] (by kernel_rfl) rfl
                    · skip
                      repeat' first | ((first | (with_reducible apply XBr.tt) | (with_reducible refine XInt.i64 (by omega) (by omega) ?_)); conv => whnf) | (with_reducible apply XAnd.mk) | ((first | (with_reducible apply Chk.go) | (with_reducible apply ChkA.go)); conv => whnf) | (exact XSame.mk rfl rfl) | (with_reducible exact trivial) | (exact XSame.mk (congrArg (AV.int .i64) e1) rfl) | (((refine XCall.of hof2 1 rfl rfl rfl ?_); rw [hqq]); conv => whnf) | (exact XSame.mk (congrArg AV.bool eA) rfl) | (exact XSame.mk (congrArg AV.bool eB) rfl) | fail
                    · skip
                      repeat' first | ((first | (with_reducible apply XBr.tt) | (with_reducible refine XInt.i64 (by omega) (by omega) ?_)); conv => whnf) | (with_reducible apply XAnd.mk) | ((first | (with_reducible apply Chk.go) | (with_reducible apply ChkF.go) | (with_reducible apply ChkB.go)); conv => whnf) | (exact XSame.mk rfl rfl) | (with_reducible exact trivial) | (exact XSame.mk (congrArg AV.bool eB) rfl) | fail
                    · rw [hp]
                      conv => whnf
                      repeat' first | ((with_reducible apply XBr.tt); conv => whnf) | fail
                      exact ⟨rfl, rfl⟩
                  · have eB : ((b : Int) == 0) = false := by rw [beq_eq_false_iff_ne]; omega
                    apply Walk.drawX tab_ok mixed_ok [] [5] (hsV _ [id, fun H => H.set 1 (.map (esA qq.2))])
                      [_, _, _, _, natA (diff left c), natA qq.1, _, _, _, _, .bool true, _, _, .bool false, _, _, natA (c ^^^ b), natA (c ^^^ b), _, natA (lowb (c ^^^ b)), natA (c &&& lowb (c ^^^ b)), _, _, _] (by kernel_rfl) rfl
                    · skip
                      repeat' first | ((first | (with_reducible apply XBr.tt) | (with_reducible apply XBr.ff) | (with_reducible refine XInt.i64 (by omega) (by omega) ?_)); conv => whnf) | (with_reducible apply XAnd.mk) | ((first | (with_reducible apply Chk.go) | (with_reducible apply ChkA.go)); conv => whnf) | (exact XSame.mk rfl rfl) | (with_reducible exact trivial) | (exact XSame.mk (congrArg (AV.int .i64) e1) rfl) | (((refine XCall.of hof2 1 rfl rfl rfl ?_); rw [hqq]); conv => whnf) | (exact XSame.mk (congrArg AV.bool eA) rfl) | (exact XSame.mk (congrArg AV.bool eB) rfl) | (exact XSame.mk (congrArg (AV.int .i64) e2) rfl) | (exact XSame.mk (congrArg (AV.int .i64) e3) rfl) | (exact XSame.mk (congrArg (AV.int .i64) e4) rfl) | fail
                    · skip
                      repeat' first | ((first | (with_reducible apply XBr.tt) | (with_reducible apply XBr.ff) | (with_reducible refine XInt.i64 (by omega) (by omega) ?_)); conv => whnf) | (with_reducible apply XAnd.mk) | ((first | (with_reducible apply Chk.go) | (with_reducible apply ChkF.go) | (with_reducible apply ChkB.go)); conv => whnf) | (exact XSame.mk rfl rfl) | (with_reducible exact trivial) | (exact XSame.mk (congrArg AV.bool eB) rfl) | (exact XSame.mk (congrArg (AV.int .i64) e2) rfl) | (exact XSame.mk (congrArg (AV.int .i64) e3) rfl) | (exact XSame.mk (congrArg (AV.int .i64) e4) rfl) | fail
                    · conv => whnf
                      repeat' first | ((with_reducible apply XBr.bne) <;> (intro h; first | (exfalso; omega) | (conv => whnf))) | fail
                      · have hp : pickB d q.1 n left (b, m') c = (c, qq.2) := by simp only [pickB, hqq]; rw [if_pos ⟨hA, .inr (by omega)⟩]
                        rw [hp]; exact ⟨rfl, rfl⟩
                      · have hp : pickB d q.1 n left (b, m') c = (b, qq.2) := by simp only [pickB, hqq]; rw [if_neg (by omega)]
                        rw [hp]; exact ⟨rfl, rfl⟩
                · have eA : ((qq.1 : Int) == (q.1 : Int) - (n : Int) - 1) = false := by rw [beq_eq_false_iff_ne]; omega
                  have hp : pickB d q.1 n left (b, m') c = (b, qq.2) := by simp only [pickB, hqq]; rw [if_neg (by omega)]
                  apply Walk.drawX tab_ok mixed_ok [] [5] (hsV _ [id, fun H => H.set 1 (.map (esA qq.2))])
                    [_, _, _, _, natA (diff left c), natA qq.1, _, _, _, _, .bool false, _, _, _, _, _, _, _, _, _, _, _, _, _] (by kernel_rfl) rfl
                  · skip
                    repeat' first | ((first | (with_reducible apply XBr.ff) | (with_reducible refine XInt.i64 (by omega) (by omega) ?_)); conv => whnf) | (with_reducible apply XAnd.mk) | ((first | (with_reducible apply Chk.go) | (with_reducible apply ChkA.go)); conv => whnf) | (exact XSame.mk rfl rfl) | (with_reducible exact trivial) | (exact XSame.mk (congrArg (AV.int .i64) e1) rfl) | (((refine XCall.of hof2 1 rfl rfl rfl ?_); rw [hqq]); conv => whnf) | (exact XSame.mk (congrArg AV.bool eA) rfl) | fail
                  · skip
                    repeat' first | ((first | (with_reducible apply XBr.ff) | (with_reducible refine XInt.i64 (by omega) (by omega) ?_)); conv => whnf) | (with_reducible apply XAnd.mk) | ((first | (with_reducible apply Chk.go) | (with_reducible apply ChkF.go) | (with_reducible apply ChkB.go)); conv => whnf) | (exact XSame.mk rfl rfl) | (with_reducible exact trivial) | fail
                  · rw [hp]
                    conv => whnf
                    repeat' first | ((with_reducible apply XBr.ff); conv => whnf) | fail
                    exact ⟨rfl, rfl⟩
              · refine ⟨?_, by simp only [pickB, hqq]; exact q2, fun c hc => g2 c (List.mem_cons_of_mem _ hc)⟩
                simp only [pickB]; split
                · exact gc
                · exact g0
            · have hbest := best_ok d q.1 n left m0 k2
              have hbd : (cartsL d left).foldl (pickB d q.1 n left) (0, m0) = bestB d q.1 n left m0 := rfl
              rw [hbd]
              have hst : loadI d q.1 (n + 1) = ⟨diff left (bestB d q.1 n left m0).1, (bestB d q.1 n left m0).2, fillB n out0 (bits (bestB d q.1 n left m0).1)⟩ := hnext
              generalize bestB d q.1 n left m0 = bb at hbest hst
              obtain ⟨b, m2⟩ := bb
              dsimp only at hbest hst ⊢
              have hb2 := hbest.2.le
              conv => whnf
              skip
              refine XCall.ret (list_c b (by omega)) ?_
              conv => whnf
              have hbb : ∀ x ∈ bits b, 0 ≤ x ∧ x < (d.l.sacks.length : Int) := fun x hx => by
                have hp2 : b < 2 ^ d.l.sacks.length := by have := Nat.two_pow_pos d.l.sacks.length; show b < _; unfold allD at k1; omega
                have := bitsF_bound 62 0 b d.l.sacks.length hp2 x hx; omega
              have hbl := bits_len b
              refine Walk.loop tab_ok [] (fun j : Nat => j ≤ (bits b).length) (fun j => [(5, .pim (deskC d)), (7, .ptr 4 0), (8, .ptr 5 0), (9, .gr 6 l.sacks.length), (10, .ptr 7 0), (11, .ptr 8 0), (12, .ptr 9 0), (40, natA q.1), (41, natA n), (77, slA (bits b)), (78, natA (bits b).length), (79, natA j)])
                (fun j => [.cells [ofC d 1], .map (esA m2), .cells [.mp 1], .cells [ofC d 1], .cells [ofC d 1], .cells [natA q.1], .grow 3 false (nats (fillB n out0 ((bits b).take j))), .cells [natA left], .cells [natA n], .cells [natA b], .raw (.deferred (some [])), .dead])
                (fun j => (bits b).length - j) 0 (by omega) rfl ⟨rfl, rfl, rfl, rfl, rfl, rfl, rfl, rfl, rfl, rfl, by simp only [ints, List.length_map]; rfl, rfl, trivial⟩ ?_
              intro j hj
              have hfl := fillB_len n ((bits b).take j) out0
              conv => whnf
              repeat' first | ((with_reducible apply XBr.dec) <;> (intro h; first | (exfalso; omega) | ((try simp only [List.length_map] at h); first | (exfalso; omega) | (conv => whnf)))) | ((first | (with_reducible refine XInt.i64 (by omega) (by omega) ?_) | ((with_reducible refine XIx.nat ?_ ?_ ?_); omega; (intro _; rfl))); conv => whnf) | fail
              · rename_i hjl
                have hmem := getD_mem (xs := bits b) (i := j) (d := default) (by omega)
                have hv := hbb _ hmem
                refine XHold.mk ⟨by rw [List.length_map, hfl, k3, hdn], rfl, by omega, by omega⟩ ?_
                conv => whnf
                refine XPut.map n rfl (by rw [hfl, k3, hdn]) (by omega) ?_
                conv => whnf
                repeat' first | ((with_reducible refine XInt.i64 (by omega) (by omega) ?_); conv => whnf) | fail
                refine XAgain.go (j + 1) (by omega) (by omega) ?_ ⟨rfl, rfl, rfl, rfl, rfl, rfl, rfl, rfl, rfl, rfl, rfl, rfl, trivial⟩
                rw [take_next (by omega)]
                unfold fillB
                rw [List.foldl_append]; rfl
              · rename_i hjl
                have hje : j = (bits b).length := by omega
                subst hje
                refine XAgainM.go (n + 1) [.cells [natA n], .cells [natA b], .raw (.deferred (some [])), .dead] (by omega) (by omega) ?_ ⟨rfl, rfl, rfl, rfl, rfl, rfl, rfl, trivial⟩ (Nat.le_refl _) ?_ ?_ ?_ ?_
                · rw [hst, List.take_length]
                  have e1 : iandn .i64 (left : Int) (b : Int) = ((diff left b : Nat) : Int) := iandn_nat (by omega) (by omega)
                  simp only [List.cons_append, List.nil_append, natA, e1]
                · intro x hx
                  simp only [List.mem_cons, List.not_mem_nil, or_false] at hx
                  rcases hx with rfl | rfl | rfl | rfl | rfl | rfl | rfl | rfl <;> first | exact low_esA _ | exact lowN _ | rfl | (simp only [Blk.low, ofC, lowL, AV.low, lowDk, List.length_cons, List.length_nil]; rfl)
                · intro p hp
                  simp only [List.mem_cons, List.not_mem_nil, or_false] at hp
                  rcases hp with rfl | rfl | rfl | rfl | rfl | rfl | rfl <;> first | rfl | exact lowDk _
                · simp
                · intro i hi; simp at hi; subst hi; exact ⟨Nat.le_of_ble_eq_true rfl, rfl⟩
          · have hne : n = q.1 := by omega
            subst hne
            rw [hfin, hs]
            apply Walk.drawX tab_ok mixed_ok [] [] (hsK _) [_, _, _, _, _] (by kernel_rfl) rfl
            · skip
              repeat' first | (with_reducible apply XAnd.mk) | ((first | (with_reducible apply Chk.go) | (with_reducible apply ChkA.go)); conv => whnf) | (exact XSame.mk rfl rfl) | (with_reducible exact trivial) | fail
            · skip
              repeat' first | (with_reducible apply XAnd.mk) | ((first | (with_reducible apply ChkF.go) | (with_reducible apply ChkB.go)); conv => whnf) | (with_reducible exact trivial) | fail
            · conv => whnf
              skip
              exact ⟨Froz.tup (.cons (Froz.grow rfl (by simp only [nats, List.length_map, k3, hdn]) (lowN _)) (.cons (Froz.low rfl) (.cons (Froz.low rfl) .nil)))⟩
  · rw [if_neg hc, if_neg hc]
    conv => whnf
    repeat' first | ((with_reducible apply XBr.bne) <;> (intro h; first | (exfalso; omega) | (conv => whnf))) | fail
    exact ⟨Froz.low rfl⟩
structure Pr where
  unit : Int
  nl : Bool
  ps : List Int
def pcC (p : Pr) : List AV := [.int .i64 p.unit, .sl p.nl (ints p.ps)]
def pcA (p : Pr) : AV := .agg (pcC p)
theorem lowPc {n : Nat} (p : Pr) : lowL n (pcC p) = true := by simp only [pcC, lowL, AV.low, lowI]; rfl
theorem pcL {n : Nat} (p : Pr) : (pcA p).low n = true := lowPc p
def priceE (l : Ld) (p : Pr) : Int := if p.ps.length ≠ l.sacks.length then 2 else if (inB p.unit 1 100 && p.ps.all fun n => inB n 0 100) = true then 0 else 3
theorem priced1_c (x : Int) : Comp Try.prog 168 [.int .i64 x] (.bool (inB x 0 100)) := by
  refine Comp.body (T := tab) (res := [.tmp 2]) tab_ok [] Try.func168 rfl (by kernel_rfl) Try.ntmps168 rfl (by simp only [List.length_cons, List.length_nil]; decide) (by rfl) ?_; conv => whnf
  refine XCall.ret (in_c _ _ _) ?_
  conv => whnf
  exact XOut.bool rfl
def pricedR (l : Ld) (p : Pr) : AV := if checkR l = 0 then if priceE l p = 0 then .tup [.pim (deskC (openD l)), .int .i64 0] else .tup [.nilp, .int .i64 (priceE l p)] else .tup [.nilp, .int .i64 (checkR l)]
structure LdW (l : Ld) : Prop where
  w : l.nla = true → l.apart = []
  h1 : l.sacks.length ≤ 100000
  h2 : l.apart.length ≤ 1000
  h3 : l.wth.length ≤ 1000
theorem priced_c (l : Ld) (p : Pr) (o : LdW l) (hp : p.ps.length ≤ 100000) : Comp Try.prog 151 [ldA l, pcA p] (pricedR l p) := by
  refine Comp.body (T := tab) (res := [.tmp 4, .tmp 5]) tab_ok [] Try.func151 rfl (by kernel_rfl) Try.ntmps151 rfl (by simp only [List.length_cons, List.length_nil]; decide) (by simp only [lowL, ldL, pcL]; rfl) ?_; conv => whnf
  refine XCall.ret (opened_c l o.w o.h1 o.h2 o.h3) ?_
  unfold openR pricedR
  by_cases hc : checkR l = 0
  · rw [if_pos hc, if_pos hc]
    generalize openD l = d
    conv => whnf
    repeat' first | ((first | (with_reducible apply XBr.tt) | (with_reducible apply XBr.ff)); conv => whnf) | (with_reducible apply XBr.not) | ((with_reducible apply XBr.bne) <;> (intro h; first | (exfalso; omega) | (conv => whnf))) | (refine XCall.ret (in_c _ _ _) ?_; conv => whnf) | (refine XCall.ret (every_int p.nl p.ps 168 [] (fun n => inB n 0 100) rfl hp fun x _ => priced1_c x) ?_; conv => whnf) | ((with_reducible apply XBr.mk') <;> (intro h; conv => whnf)) | fail
    · have he : priceE l p = 2 := by unfold priceE; rw [if_pos (by rename_i h; simp only [List.length_map] at h; omega)]
      rw [he]; exact ⟨Froz.low rfl⟩
    · have he : priceE l p = 0 := by unfold priceE; rw [if_neg (by simp only [List.length_map] at *; omega), if_pos (by simp [*])]
      rw [he]; exact ⟨Froz.low (by show lowL 0 _ = true; simp only [lowL, AV.low, lowDk]; rfl)⟩
    all_goals (have he : priceE l p = 3 := by (unfold priceE; rw [if_neg (by simp only [List.length_map] at *; omega), if_neg (by simp [*])]))
    all_goals (rw [he]; exact ⟨Froz.low rfl⟩)
  · rw [if_neg hc, if_neg hc]
    conv => whnf
    repeat' first | ((with_reducible apply XBr.bne) <;> (intro h; first | (exfalso; omega) | (conv => whnf))) | fail
    exact ⟨Froz.low rfl⟩
def priceS (p : Pr) (is : List Int) : Int := (is.map fun i => p.ps.getD i.toNat 0).sum
def fairB (d : Dk) (p : Pr) : Bool := (List.range (2 ^ d.l.sacks.length)).all fun s => !(decide (p.unit < priceS p (bits s)) && rightB d s)
def fairR (l : Ld) (p : Pr) : AV := if checkR l = 0 then if priceE l p = 0 then .tup [.bool (fairB (openD l) p), .int .i64 0] else .tup [.bool false, .int .i64 (priceE l p)] else .tup [.bool false, .int .i64 (checkR l)]
theorem priceE_ok {l : Ld} {p : Pr} (h : priceE l p = 0) : p.ps.length = l.sacks.length ∧ 1 ≤ p.unit ∧ p.unit ≤ 100 ∧ ∀ x ∈ p.ps, 0 ≤ x ∧ x ≤ 100 := by
  unfold priceE at h
  split at h
  · cases h
  rename_i h1
  split at h
  · rename_i h2
    simp only [Bool.and_eq_true, inB_iff, List.all_eq_true] at h2
    exact ⟨by omega, h2.1.1, h2.1.2, h2.2⟩
  · cases h
theorem priceS_bd {p : Pr} (hp : ∀ x ∈ p.ps, 0 ≤ x ∧ x ≤ 100) : ∀ is : List Int, 0 ≤ priceS p is ∧ priceS p is ≤ 100 * is.length
  | [] => by simp [priceS]
  | i :: is => by
    have ih := priceS_bd hp is
    have : 0 ≤ p.ps.getD i.toNat 0 ∧ p.ps.getD i.toNat 0 ≤ 100 := by
      rw [List.getD_eq_getElem?_getD]
      cases h : p.ps[i.toNat]? with
      | none => simp
      | some x => exact hp x (List.mem_of_getElem? h)
    simp only [priceS, List.map_cons, List.sum_cons, List.length_cons] at ih ⊢
    omega
theorem priceS_next (p : Pr) {is : List Int} {j : Nat} (h : j < is.length) : priceS p (is.take (j + 1)) = priceS p (is.take j) + p.ps.getD (is.getD j default).toNat 0 := by
  rw [take_next h]; simp [priceS, List.sum_append]
theorem fair_c (l : Ld) (p : Pr) (o : LdW l) (hp : p.ps.length ≤ 100000) : Comp Try.prog 121 [ldA l, pcA p] (fairR l p) := by
  refine Comp.body (T := tab) (res := [.tmp 4, .tmp 5]) tab_ok [] Try.func121 rfl (by kernel_rfl) Try.ntmps121 rfl (by simp only [List.length_cons, List.length_nil]; decide) (by simp only [lowL, ldL, pcL]; rfl) ?_; conv => whnf
  refine XCall.ret (priced_c l p o hp) ?_
  unfold pricedR fairR
  by_cases hc : checkR l = 0
  · rw [if_pos hc, if_pos hc]
    by_cases he : priceE l p = 0
    · rw [if_pos he, if_pos he]
      have ok := (checkR_ok l).1 hc
      have dok := openD_full ok
      obtain ⟨g1, g2, g3, g4⟩ := priceE_ok he
      have hdn : (openD l).l.sacks.length = l.sacks.length := rfl
      generalize openD l = d at dok hdn
      have hpw := pow9 (n := d.l.sacks.length) (by have := ok.n; omega)
      conv => whnf
      repeat' first | ((with_reducible apply XBr.bne) <;> (intro h; first | (exfalso; omega) | (conv => whnf))) | fail
      refine XCall.ret (all_c d (by rw [hdn]; exact ok.n)) ?_
      conv => whnf
      repeat' first | ((with_reducible refine XInt.i64 (by omega) (by omega) ?_); conv => whnf) | fail
      refine Walk.loop tab_ok [] (fun s : Nat => s ≤ 2 ^ d.l.sacks.length ∧ ∀ k, k < s → (decide (p.unit < priceS p (bits k)) && rightB d k) = false) (fun s => [(3, .pim (pcC p)), (6, .pim (deskC d)), (23, natA (2 ^ d.l.sacks.length)), (24, natA s)])
        (fun _ => []) (fun s => 2 ^ d.l.sacks.length - s) 0 ⟨by omega, fun k hk => by omega⟩ rfl ⟨rfl, rfl, congrArg (fun n => some (AV.int .i64 n)) (by omega), rfl, trivial⟩ ?_
      rintro s ⟨h1, h2⟩
      conv => whnf
      repeat' first | ((with_reducible apply XBr.dec) <;> (intro h; first | (exfalso; omega) | ((try simp only [List.length_map] at h); first | (exfalso; omega) | (conv => whnf)))) | fail
      · refine XCall.ret (list_c s (by omega)) ?_
        conv => whnf
        have hbb : ∀ x ∈ bits s, 0 ≤ x ∧ x < (p.ps.length : Int) := fun x hx => by
          have := bitsF_bound 62 0 s d.l.sacks.length (by omega) x hx; omega
        have hbl := bits_len s
        refine Walk.loop tab_ok [] (fun j : Nat => j ≤ (bits s).length) (fun j => [(3, .pim (pcC p)), (6, .pim (deskC d)), (23, natA (2 ^ d.l.sacks.length)), (24, natA s), (8, natA s), (9, .int .i64 (priceS p ((bits s).take j))), (28, slA (bits s)), (29, natA (bits s).length), (30, natA j)])
          (fun _ => []) (fun j => (bits s).length - j) 0 (by omega) rfl ⟨rfl, rfl, rfl, rfl, rfl, rfl, rfl, by simp only [ints, List.length_map]; rfl, rfl, trivial⟩ ?_
        intro j hj
        conv => whnf
        have hb := priceS_bd g4 ((bits s).take j)
        have hl : ((bits s).take j).length ≤ 62 := by rw [List.length_take]; omega
        repeat' first | ((first | (with_reducible apply XBr.tt) | (with_reducible apply XBr.ff)); conv => whnf) | ((with_reducible apply XBr.dec) <;> (intro h; first | (exfalso; omega) | ((try simp only [List.length_map] at h); first | (exfalso; omega) | (conv => whnf)))) | ((first | (with_reducible refine XInt.i64 (by omega) (by omega) ?_) | ((with_reducible refine XIx.nat ?_ ?_ ?_); omega; (intro _; rfl))); conv => whnf) | fail
        · have hv := hbb _ (getD_mem (xs := bits s) (i := j) (d := default) (by omega))
          have hv2 := g4 _ (getD_mem (xs := p.ps) (i := ((bits s).getD j default).toNat) (d := 0) (by omega))
          refine XIx.map (by omega) (by omega) (fun _ => rfl) ?_
          conv => whnf
          skip
          refine XInt.i64 (by show _ ≤ _ + p.ps.getD _ 0; omega) (by show _ + p.ps.getD _ 0 ≤ _; omega) ?_
          conv => whnf
          repeat' first | ((with_reducible refine XInt.i64 (by omega) (by omega) ?_); conv => whnf) | fail
          refine XAgain.go (j + 1) (by omega) (by omega) rfl ⟨rfl, rfl, rfl, rfl, rfl, ?_, rfl, rfl, rfl, trivial⟩
          rw [priceS_next p (by omega)]; rfl
        · have hje : j = (bits s).length := by omega
          subst hje
          have hu := h
          rw [List.take_length] at hu
          refine XCall.ret (right_c d dok s (by omega)) ?_
          conv => whnf
          repeat' first | ((first | (with_reducible apply XBr.tt) | (with_reducible refine XInt.i64 (by omega) (by omega) ?_)); conv => whnf) | ((with_reducible apply XBr.mk') <;> (intro h; conv => whnf)) | fail
          · skip
            have hf : fairB d p = false := by
              unfold fairB; rw [List.all_eq_false]
              exact ⟨s, List.mem_range.2 (by omega), by rw [h, decide_eq_true hu]; simp⟩
            exact ⟨by rw [hf]; exact Froz.low rfl⟩
          · skip
            refine XAgain.go (s + 1) ⟨by omega, fun k hk => ?_⟩ (by omega) rfl ⟨rfl, rfl, rfl, rfl, trivial⟩
            rcases Nat.lt_or_ge k s with h5 | h5
            · exact h2 k h5
            · rw [show k = s by omega, h, Bool.and_false]
        · have hje : j = (bits s).length := by omega
          subst hje
          rw [List.take_length] at h
          refine XAgain.go (s + 1) ⟨by omega, fun k hk => ?_⟩ (by omega) rfl ⟨rfl, rfl, rfl, rfl, trivial⟩
          rcases Nat.lt_or_ge k s with h5 | h5
          · exact h2 k h5
          · rw [show k = s by omega, decide_eq_false h, Bool.false_and]
      · refine ⟨?_⟩
        have : fairB d p = true := by
          unfold fairB; rw [List.all_eq_true]
          intro k hk; rw [List.mem_range] at hk
          rw [h2 k (by omega)]; rfl
        rw [this]; exact Froz.low rfl
    · rw [if_neg he, if_neg he]
      conv => whnf
      repeat' first | ((with_reducible apply XBr.bne) <;> (intro h; first | (exfalso; omega) | (conv => whnf))) | fail
      exact ⟨Froz.low rfl⟩
  · rw [if_neg hc, if_neg hc]
    conv => whnf
    repeat' first | ((with_reducible apply XBr.bne) <;> (intro h; first | (exfalso; omega) | (conv => whnf))) | fail
    exact ⟨Froz.low rfl⟩
end GA
end

section
namespace GA
open Go Go.RowKit Go.Proofs
set_option pp.deepTerms true
set_option maxRecDepth 8000
set_option linter.unusedVariables false
set_option linter.unusedSimpArgs false
def provesR (l : Ld) (p : Pr) : AV := if checkR l = 0 then if priceE l p = 0 then if fairB (openD l) p then .tup [.int .i64 ((p.ps.sum + p.unit - 1) / p.unit), .int .i64 0] else .tup [.int .i64 0, .int .i64 8] else .tup [.int .i64 0, .int .i64 (priceE l p)] else .tup [.int .i64 0, .int .i64 (checkR l)]
theorem psum_bd : ∀ (ps : List Int), (∀ x ∈ ps, 0 ≤ x ∧ x ≤ 100) → 0 ≤ ps.sum ∧ ps.sum ≤ 100 * ps.length
  | [], _ => by simp
  | x :: ps, h => by
    have ih := psum_bd ps (fun y hy => h y (List.mem_cons_of_mem _ hy))
    have := h x List.mem_cons_self
    simp only [List.sum_cons, List.length_cons]; omega
theorem proves_c (l : Ld) (p : Pr) (o : LdW l) (hp : p.ps.length ≤ 100000) : Comp Try.prog 75 [ldA l, pcA p] (provesR l p) := by
  refine Comp.body (T := tab) (res := [.tmp 4, .tmp 5]) tab_ok [] Try.func75 rfl (by kernel_rfl) Try.ntmps75 rfl (by simp only [List.length_cons, List.length_nil]; decide) (by simp only [lowL, ldL, pcL]; rfl) ?_; conv => whnf
  refine XCall.ret (fair_c l p o hp) ?_
  unfold fairR provesR
  by_cases hc : checkR l = 0
  · rw [if_pos hc, if_pos hc]
    by_cases he : priceE l p = 0
    · rw [if_pos he, if_pos he]
      obtain ⟨g1, g2, g3, g4⟩ := priceE_ok he
      have ok := (checkR_ok l).1 hc
      have hn := ok.n
      generalize fairB (openD l) p = f
      conv => whnf
      repeat' first | (with_reducible apply XBr.not) | ((with_reducible apply XBr.bne) <;> (intro h; first | (exfalso; omega) | (conv => whnf))) | ((with_reducible apply XBr.mk') <;> (intro h; conv => whnf)) | fail
      · refine Walk.loop tab_ok [] (fun j : Nat => j ≤ p.ps.length) (fun j => [(3, .pim (pcC p)), (23, .sl p.nl (ints p.ps)), (24, natA p.ps.length), (8, .int .i64 (p.ps.take j).sum), (25, natA j)])
          (fun _ => []) (fun j => p.ps.length - j) 0 (by omega) rfl ⟨rfl, rfl, by simp only [ints, List.length_map]; rfl, rfl, rfl, trivial⟩ ?_
        intro j hj
        have hb := psum_bd (p.ps.take j) (fun x hx => g4 x (List.mem_of_mem_take hx))
        have hl : (p.ps.take j).length ≤ 9 := by rw [List.length_take]; omega
        conv => whnf
        repeat' first | ((with_reducible apply XBr.dec) <;> (intro h; first | (exfalso; omega) | ((try simp only [List.length_map] at h); first | (exfalso; omega) | (conv => whnf)))) | ((with_reducible refine XInt.i64 (by omega) (by omega) ?_); conv => whnf) | ((with_reducible refine XHold.mk ?_ ?_); (first | omega | rfl | decide | exact ⟨rfl, by decide, rfl⟩ | exact wideI _ | exact widePr _ | exact wideSk _ | (unfold Room; constructor <;> ((try simp) <;> omega)) | exact ⟨rfl, by simp only [List.length_map], by unfold Room; constructor <;> ((try simp) <;> omega)⟩ | exact ⟨by omega, by omega, by unfold Room; constructor <;> ((try simp) <;> omega)⟩); conv => whnf) | (((with_reducible refine XIx.nat ?_ ?_ ?_); omega; (intro _; rfl)); conv => whnf) | fail
        · have hv := g4 _ (getD_mem (xs := p.ps) (i := j) (d := default) (by omega))
          refine XInt.i64 (by omega) (by omega) ?_
          conv => whnf
          repeat' first | ((with_reducible refine XInt.i64 (by omega) (by omega) ?_); conv => whnf) | fail
          refine XAgain.go (j + 1) (by omega) (by omega) rfl ⟨rfl, rfl, rfl, ?_, rfl, trivial⟩
          rw [take_next (by omega), List.sum_append]; simp; rfl
        · have hje : j = p.ps.length := by omega
          subst hje
          rw [List.take_length] at hb hl ⊢
          have ht : (p.ps.sum + p.unit - 1).tdiv p.unit = (p.ps.sum + p.unit - 1) / p.unit := Int.tdiv_eq_ediv_of_nonneg (by omega)
          have h1 : 0 ≤ (p.ps.sum + p.unit - 1) / p.unit := Int.ediv_nonneg (by omega) (by omega)
          have h2 : (p.ps.sum + p.unit - 1) / p.unit ≤ p.ps.sum + p.unit - 1 := Int.ediv_le_self _ (by omega)
          rw [ht]
          refine XInt.i64 (by omega) (by omega) ?_
          conv => whnf
          rename_i hf
          exact ⟨by rw [hf]; exact Froz.low rfl⟩
      · exact ⟨by rw [h]; exact Froz.low rfl⟩
    · rw [if_neg he, if_neg he]
      conv => whnf
      repeat' first | ((with_reducible apply XBr.bne) <;> (intro h; first | (exfalso; omega) | (conv => whnf))) | fail
      exact ⟨Froz.low rfl⟩
  · rw [if_neg hc, if_neg hc]
    conv => whnf
    repeat' first | ((with_reducible apply XBr.bne) <;> (intro h; first | (exfalso; omega) | (conv => whnf))) | fail
    exact ⟨Froz.low rfl⟩
def qA (q : Int × Int) : AV := .agg [.int .i64 q.1, .int .i64 q.2]
def aboveB (q r : Int × Int) : Bool := decide (r.1 * q.2 < q.1 * r.2)
theorem mul_bd {a b A B : Int} (h1 : 0 ≤ a) (h2 : a ≤ A) (h3 : 0 ≤ b) (h4 : b ≤ B) : 0 ≤ a * b ∧ a * b ≤ A * B :=
  ⟨Int.mul_nonneg h1 h3, Int.mul_le_mul h2 h4 h3 (by omega)⟩
theorem above_c (q r : Int × Int) (h1 : 0 ≤ q.1 ∧ q.1 ≤ 1000000) (h2 : 0 ≤ q.2 ∧ q.2 ≤ 1000000) (h3 : 0 ≤ r.1 ∧ r.1 ≤ 1000000) (h4 : 0 ≤ r.2 ∧ r.2 ≤ 1000000) : Comp Try.prog 120 [qA q, qA r] (.bool (aboveB q r)) := by
  refine Comp.body (T := tab) (res := [.tmp 4]) tab_ok [] Try.func120 rfl (by kernel_rfl) Try.ntmps120 rfl (by simp only [List.length_cons, List.length_nil]; decide) (by rfl) ?_; conv => whnf
  have a := mul_bd h1.1 h1.2 h4.1 h4.2
  have b := mul_bd h3.1 h3.2 h2.1 h2.2
  repeat' first | ((with_reducible refine XInt.i64 (by omega) (by omega) ?_); conv => whnf) | fail
  exact XOut.bool rfl
def greatestR (xs : List Int) : Int := xs.foldl (fun n m => max n m) 0
theorem greatest_c (nl : Bool) (xs : List Int) (hx : xs.length ≤ 100000) : Comp Try.prog 119 [.sl nl (ints xs)] (.int .i64 (greatestR xs)) := by
  refine Comp.body (T := tab) (res := [.tmp 2]) tab_ok [] Try.func119 rfl (by kernel_rfl) Try.ntmps119 rfl (by simp only [List.length_cons, List.length_nil]; decide) (by simp only [lowL, AV.low, lowI]; rfl) ?_; conv => whnf
  refine Walk.loop tab_ok [] (fun j : Nat => j ≤ xs.length) (fun j => [(6, .sl nl (ints xs)), (7, natA xs.length), (3, .int .i64 (greatestR (xs.take j))), (8, natA j)])
    (fun _ => []) (fun j => xs.length - j) 0 (by omega) rfl ⟨rfl, by simp only [ints, List.length_map]; rfl, rfl, rfl, trivial⟩ ?_
  intro j hj
  conv => whnf
  repeat' first | ((with_reducible apply XBr.dec) <;> (intro h; first | (exfalso; omega) | ((try simp only [List.length_map] at h); first | (exfalso; omega) | (conv => whnf)))) | ((first | (with_reducible refine XInt.i64 (by omega) (by omega) ?_) | ((with_reducible refine XIx.nat ?_ ?_ ?_); omega; (intro _; rfl))); conv => whnf) | fail
  · refine XAgain.go (j + 1) (by omega) (by omega) rfl ⟨rfl, rfl, ?_, rfl, trivial⟩
    rw [take_next (by omega)]; unfold greatestR; rw [List.foldl_append]; rfl
  · have hje : j = xs.length := by omega
    subst hje
    rw [List.take_length]; exact XOut.int rfl

def partStep (l : Ld) (out : List Int) (s : Sk) : List Int := out.set s.o.toNat (out.getD s.o.toNat 0 + weightR l s)
def partsR (l : Ld) : List Int := l.sacks.foldl (partStep l) (List.replicate 6 0)
def PartsOk (n : Nat) (out : List Int) : Prop := out.length = 6 ∧ ∀ i, 0 ≤ out.getD i 0 ∧ out.getD i 0 ≤ 100 * n
theorem getD_set {α : Type} (xs : List α) (i j : Nat) (v d : α) : (xs.set i v).getD j d = if i = j ∧ i < xs.length then v else xs.getD j d := by
  simp only [List.getD_eq_getElem?_getD, List.getElem?_set]
  by_cases h : i = j
  · subst h
    by_cases h2 : i < xs.length
    · simp [h2]
    · simp [h2]
  · simp [h]
theorem partStep_ok {l : Ld} (o : LdOk l) {n : Nat} {out : List Int} {s : Sk} (hs : s ∈ l.sacks) (h : PartsOk n out) : PartsOk (n + 1) (partStep l out s) := by
  obtain ⟨h1, h2⟩ := h
  refine ⟨by simp [partStep, h1], fun i => ?_⟩
  obtain ⟨e1, e2, e3⟩ := wt_le o hs
  have a := h2 i
  have b := h2 s.o.toNat
  unfold partStep; rw [getD_set]
  split
  · omega
  · omega
theorem parts_take {l : Ld} (o : LdOk l) : ∀ n, n ≤ l.sacks.length → PartsOk n ((l.sacks.take n).foldl (partStep l) (List.replicate 6 0))
  | 0, _ => ⟨rfl, fun i => by
      show 0 ≤ (List.replicate 6 (0 : Int)).getD i 0 ∧ (List.replicate 6 (0 : Int)).getD i 0 ≤ _
      rw [List.getD_eq_getElem?_getD, List.getElem?_replicate]; split <;> simp⟩
  | n + 1, h => by
    rw [take_next (by omega), List.foldl_append]
    exact partStep_ok o (getD_mem (by omega)) (parts_take o n (by omega))
theorem parts_ok {l : Ld} (o : LdOk l) : PartsOk 9 (partsR l) := by
  have h := parts_take o l.sacks.length (Nat.le_refl _)
  rw [List.take_length] at h
  have := o.n
  exact ⟨h.1, fun i => by have := h.2 i; unfold partsR; omega⟩
theorem parts_c (l : Ld) (o : LdOk l) : Comp Try.prog 118 [ldA l] (.sl false (ints (partsR l))) := by
  refine Comp.body' (T := tab) (res := [.tmp 2]) tab_ok [] Try.func118 rfl (by kernel_rfl) Try.ntmps118 rfl (by simp only [List.length_cons, List.length_nil]; decide) (by simp only [lowL, ldL]; rfl) ?_; conv => whnf
  repeat' first | ((with_reducible refine XHold.mk ?_ ?_); (first | omega | rfl | decide | exact ⟨rfl, by decide, rfl⟩ | exact wideI _ | exact widePr _ | exact wideSk _ | (unfold Room; constructor <;> ((try simp) <;> omega)) | exact ⟨rfl, by simp only [List.length_map], by unfold Room; constructor <;> ((try simp) <;> omega)⟩ | exact ⟨by omega, by omega, by unfold Room; constructor <;> ((try simp) <;> omega)⟩); conv => whnf) | fail
  refine Walk.loopG tab_ok [] (fun j : Nat => j ≤ l.sacks.length) (fun j => [(1, .pim (ldC l)), (3, .gr 0 6), (8, .sl l.nls (l.sacks.map skA)), (9, natA l.sacks.length), (10, natA j)])
    (fun j => [.grow 3 false (ints ((l.sacks.take j).foldl (partStep l) (List.replicate 6 0)))]) (fun j => l.sacks.length - j) 0 (by omega) rfl ⟨rfl, rfl, rfl, by simp only [List.length_map]; rfl, rfl, trivial⟩ ?_ ?_ ?_
  · intro j _
    constructor
    · intro x hx; simp at hx; subst hx; exact lowI _
    · intro p hp; simp at hp; rcases hp with rfl | rfl | rfl | rfl | rfl <;> first | exact lowLd _ | exact lowSk _ | rfl
  · intro j _; simp
  intro j hj
  have pk := parts_take o j hj
  have hn := o.n
  have hnx : j < l.sacks.length → (l.sacks.take (j + 1)).foldl (partStep l) (List.replicate 6 0) = partStep l ((l.sacks.take j).foldl (partStep l) (List.replicate 6 0)) (l.sacks.getD j default) := fun h => by
    rw [take_next h, List.foldl_append]; rfl
  have hfin : j = l.sacks.length → (l.sacks.take j).foldl (partStep l) (List.replicate 6 0) = partsR l := fun h => by rw [h, List.take_length]; rfl
  generalize hog : (l.sacks.take j).foldl (partStep l) (List.replicate 6 0) = out at pk hnx hfin
  conv => whnf
  repeat' first | ((with_reducible apply XBr.dec) <;> (intro h; first | (exfalso; omega) | ((try simp only [List.length_map] at h); first | (exfalso; omega) | (conv => whnf)))) | (((with_reducible refine XIx.nat ?_ ?_ ?_); omega; (intro _; rfl)); conv => whnf) | fail
  · have hnx := hnx (by omega)
    have hsm := getD_mem (xs := l.sacks) (i := j) (d := default) (by omega)
    generalize l.sacks.getD j default = s at hsm hnx
    have hok := o.sk s hsm
    have hwl := wt_le o hsm
    have hs1 := o.s1
    have hs2 := o.s2
    have pv := pk.2 s.o.toNat
    apply Walk.drawX tab_ok mixed_ok [] [10] (hsV _ [id, fun H => H.set 0 (.grow 3 false (ints (partStep l out s)))]) [_, _, _, _, _, _, _, _, _, _, _] (by kernel_rfl) rfl
    · skip
      repeat' first | (with_reducible apply XAnd.mk) | ((first | (with_reducible apply Chk.go) | (with_reducible apply ChkA.go)); conv => whnf) | (exact XSame.mk rfl rfl) | (with_reducible exact trivial) | ((first | (refine XHold.mk ⟨by rw [List.length_map, pk.1], rfl, by omega, by omega⟩ ?_) | (refine XGet.map (by rw [pk.1]) (by omega) ?_) | (refine XCall.ret (weight_c l s (by omega) (by omega) (by omega) (by omega)) ?_) | (refine XInt.i64 (by show _ ≤ out.getD _ 0 + _; omega) (by show out.getD _ 0 + _ ≤ _; omega) ?_) | (refine XPut.map (out.getD s.o.toNat 0 + weightR l s) rfl (by rw [pk.1]) (by omega) ?_)); conv => whnf) | fail
    · skip
      repeat' first | (with_reducible apply XAnd.mk) | ((first | (with_reducible apply ChkF.go) | (with_reducible apply ChkB.go)); conv => whnf) | (with_reducible exact trivial) | fail
    · conv => whnf
      repeat' first | ((with_reducible refine XInt.i64 (by omega) (by omega) ?_); conv => whnf) | fail
      refine XAgainG.go (j + 1) [.cells [.int .i64 s.m, .int .i64 s.o]] (by omega) (by omega) ?_ ⟨rfl, rfl, rfl, rfl, rfl, trivial⟩
      rw [hnx]; rfl
  · rw [hfin (by omega)]
    exact ⟨Froz.grow rfl (by rw [List.length_map]; exact (parts_ok o).1) (lowI _)⟩
def quoA (parts out : List Int) (i : Nat) : Int × Int := (parts.getD i 0, 2 * out.getD i 0 + 1)
def pq (parts out : List Int) (st : Nat × (Int × Int)) (i : Nat) : Nat × (Int × Int) :=
  if (st.2 = (0, 1) ∧ 0 < parts.getD i 0) ∨ aboveB (quoA parts out i) st.2 = true then (i, quoA parts out i) else st
def pqI (parts out : List Int) (i : Nat) : Nat × (Int × Int) := (List.range i).foldl (pq parts out) (0, (0, 1))
def whoR (parts out : List Int) : Nat := (pqI parts out 6).1
def shareStep (parts out : List Int) : List Int := out.set (whoR parts out) (out.getD (whoR parts out) 0 + 1)
def shareI (parts : List Int) : Nat → List Int
  | 0 => List.replicate 6 0
  | n + 1 => shareStep parts (shareI parts n)
theorem pqI_succ (parts out : List Int) (i : Nat) : pqI parts out (i + 1) = pq parts out (pqI parts out i) i := by
  unfold pqI; rw [List.range_succ, List.foldl_append]; rfl
def OutOk (n : Nat) (out : List Int) : Prop := out.length = 6 ∧ ∀ i, 0 ≤ out.getD i 0 ∧ out.getD i 0 ≤ n
theorem pqI_ok {parts out : List Int} {k : Nat} (hp : PartsOk 9 parts) (ho : OutOk k out) : ∀ i, i ≤ 6 → (pqI parts out i).1 < 6 ∧ (0 ≤ (pqI parts out i).2.1 ∧ (pqI parts out i).2.1 ≤ 900) ∧ (1 ≤ (pqI parts out i).2.2 ∧ (pqI parts out i).2.2 ≤ 2 * k + 1)
  | 0, _ => by simp [pqI]; omega
  | i + 1, h => by
    have ih := pqI_ok hp ho i (by omega)
    have a := hp.2 i
    have b := ho.2 i
    rw [pqI_succ]; unfold pq
    split
    · simp only [quoA]; omega
    · exact ih
theorem shareI_ok {parts : List Int} (hp : PartsOk 9 parts) : ∀ n, OutOk n (shareI parts n)
  | 0 => ⟨rfl, fun i => by
      show 0 ≤ (List.replicate 6 (0 : Int)).getD i 0 ∧ (List.replicate 6 (0 : Int)).getD i 0 ≤ _
      rw [List.getD_eq_getElem?_getD, List.getElem?_replicate]; split <;> simp⟩
  | n + 1 => by
    have ih := shareI_ok hp n
    refine ⟨by simp [shareI, shareStep, ih.1], fun i => ?_⟩
    have a := ih.2 i
    have b := ih.2 (whoR parts (shareI parts n))
    show 0 ≤ ((shareI parts n).set (whoR parts (shareI parts n)) ((shareI parts n).getD (whoR parts (shareI parts n)) 0 + 1)).getD i 0 ∧ ((shareI parts n).set (whoR parts (shareI parts n)) ((shareI parts n).getD (whoR parts (shareI parts n)) 0 + 1)).getD i 0 ≤ _
    rw [getD_set]
    split <;> omega
def shareE (l : Ld) (pay : Int) : Int := if checkR l ≠ 0 then checkR l else if inB pay 0 500 = false then 3 else if 0 < pay ∧ greatestR (partsR l) = 0 then 6 else 0
def shareG (l : Ld) (pay : Int) : AV × List Blk := if shareE l pay = 0 then (.tup [.gr 0 6, .int .i64 0], [.grow 3 false (ints (shareI (partsR l) pay.toNat))]) else (.tup [.sl true [], .int .i64 (shareE l pay)], [])
theorem shareG_low (l : Ld) (pay : Int) : (shareG l pay).1.low (shareG l pay).2.length = true ∧ ∀ x ∈ (shareG l pay).2, x.low (shareG l pay).2.length = true := by
  unfold shareG; split
  · exact ⟨rfl, fun x hx => by simp only [List.mem_cons, List.not_mem_nil, or_false] at hx; subst hx; exact lowI _⟩
  · exact ⟨rfl, fun x hx => by simp at hx⟩
theorem XGive.err {H : List Blk} {r : AV} (hr : r.low 0 = true) : XGive H r r [] := .mk' [] rfl (by simp) trivial (AV.ren_low0 hr).symm
theorem ren_grow (f : Nat → Nat) (t : TypeId) (nl : Bool) (xs : List Int) : (Blk.grow t nl (ints xs)).ren f = .grow t nl (ints xs) := Blk.ren_low (n := 0) (fun i hi => by omega) (lowI xs)
def shareR (l : Ld) (pay : Int) : AV := if shareE l pay = 0 then .tup [.sl false (ints (shareI (partsR l) pay.toNat)), .int .i64 0] else .tup [.sl true [], .int .i64 (shareE l pay)]
theorem share_g (l : Ld) (pay : Int) (o : LdW l) : Gives Try.prog 74 [ldA l, .int .i64 pay] (shareG l pay).1 (shareG l pay).2 := by
  refine Gives.body (T := tab) (res := [.tmp 4, .tmp 5]) tab_ok [] Try.func74 rfl (by kernel_rfl) Try.ntmps74 rfl (by simp only [List.length_cons, List.length_nil]; decide) (by simp only [lowL, AV.low, ldL]; rfl) (shareG_low l pay).1 (shareG_low l pay).2 ?_; conv => whnf
  refine XCall.ret (check_c l o.w o.h1 o.h2 o.h3) ?_
  conv => whnf
  repeat' first | (with_reducible apply XBr.not) | ((with_reducible apply XBr.bne) <;> (intro h; first | (exfalso; omega) | (conv => whnf))) | (refine XCall.ret (in_c _ _ _) ?_; conv => whnf) | ((with_reducible apply XBr.mk') <;> (intro h; conv => whnf)) | fail
  · have he : shareE l pay = checkR l := by unfold shareE; rw [if_pos (by assumption)]
    unfold shareG; rw [if_neg (by rw [he]; assumption), he]; exact XGive.err rfl
  · rename_i h0
    have ok := (checkR_ok l).1 (by omega)
    have pk := parts_ok ok
    have hpart := parts_c l ok
    have hbd := h
    rw [inB_iff] at hbd
    have hres : shareG l pay = if 0 < pay ∧ greatestR (partsR l) = 0 then (.tup [.sl true [], .int .i64 6], []) else (.tup [.gr 0 6, .int .i64 0], [.grow 3 false (ints (shareI (partsR l) pay.toNat))]) := by
      have he : shareE l pay = if 0 < pay ∧ greatestR (partsR l) = 0 then 6 else 0 := by
        unfold shareE
        rw [if_neg (show ¬ checkR l ≠ 0 by omega), if_neg (by rw [h]; simp)]
      unfold shareG; rw [he]
      by_cases hc : 0 < pay ∧ greatestR (partsR l) = 0
      · rw [if_pos hc, if_pos hc]; rfl
      · rw [if_neg hc, if_neg hc]; rfl
    rw [hres]
    clear hres
    generalize partsR l = parts at pk hpart
    apply Walk.drawX tab_ok mixed_ok [] [2] (hsV _ [id, fun H => H ++ [.grow 3 false (ints (List.replicate 6 0))]]) [_, _, _, _, _] (by kernel_rfl) rfl
    · skip
      repeat' first | ((with_reducible refine XHold.mk ?_ ?_); (first | omega | rfl | decide | exact ⟨rfl, by decide, rfl⟩ | exact wideI _ | exact widePr _ | exact wideSk _ | (unfold Room; constructor <;> ((try simp) <;> omega)) | exact ⟨rfl, by simp only [List.length_map], by unfold Room; constructor <;> ((try simp) <;> omega)⟩ | exact ⟨by omega, by omega, by unfold Room; constructor <;> ((try simp) <;> omega)⟩); conv => whnf) | (with_reducible apply XAnd.mk) | ((first | (with_reducible apply Chk.go) | (with_reducible apply ChkA.go)); conv => whnf) | (exact XSame.mk rfl rfl) | (with_reducible exact trivial) | (refine XCall.ret hpart ?_; conv => whnf) | fail
    · skip
      repeat' first | (with_reducible apply XAnd.mk) | ((first | (with_reducible apply Chk.go) | (with_reducible apply ChkF.go) | (with_reducible apply ChkB.go)); conv => whnf) | (exact XSame.mk rfl rfl) | (with_reducible exact trivial) | (refine XCall.ret hpart ?_; conv => whnf) | fail
    · conv => whnf
      repeat' first | ((first | (with_reducible apply XBr.tt) | (with_reducible apply XBr.ff)); conv => whnf) | ((with_reducible apply XBr.dec) <;> (intro h; first | (exfalso; omega) | ((try simp only [List.length_map] at h); first | (exfalso; omega) | (conv => whnf)))) | ((with_reducible apply XBr.beq) <;> (intro h; first | (exfalso; omega) | (conv => whnf))) | (refine XCall.ret (greatest_c _ parts (by have := pk.1; omega)) ?_; conv => whnf) | fail
      · rename_i hg
        rw [if_pos ⟨by assumption, h⟩]; exact XGive.err rfl
      · rw [if_neg (fun hh => h hh.2)]
        have pkl := pk.1
        obtain ⟨pn, rfl⟩ := Int.eq_ofNat_of_zero_le hbd.1
        rw [Int.toNat_natCast]
        refine Walk.loopG tab_ok [] (fun k : Nat => k ≤ pn) (fun k => [(7, .sl false (ints parts)), (8, .gr 0 6), (33, natA pn), (34, natA k)])
          (fun k => [.grow 3 false (ints (shareI parts k))]) (fun k => pn - k) 0 (by omega) rfl ⟨rfl, rfl, rfl, rfl, trivial⟩ ?_ ?_ ?_
        · intro k _
          constructor
          · intro x hx; simp at hx; subst hx; exact lowI _
          · intro p hp; simp at hp; rcases hp with rfl | rfl | rfl | rfl <;> first | exact lowI _ | rfl
        · intro k _; simp
        intro k hk
        have ok := shareI_ok pk k
        have hnx : shareI parts (k + 1) = shareStep parts (shareI parts k) := rfl
        have hfin : k = pn → shareI parts pn = shareI parts k := fun h => by rw [h]
        generalize shareI parts k = out at ok hnx hfin
        have okl := ok.1
        conv => whnf
        repeat' first | ((with_reducible apply XBr.dec) <;> (intro h; first | (exfalso; omega) | ((try simp only [List.length_map] at h); first | (exfalso; omega) | (conv => whnf)))) | fail
        · skip
          refine Walk.loopG tab_ok [] (fun i : Nat => i ≤ 6) (fun i => [(7, .sl false (ints parts)), (8, .gr 0 6), (10, .ptr 1 0), (11, .ptr 2 0), (33, natA pn), (34, natA k), (38, .sl false (ints parts)), (39, .int .i64 6), (9, natA (pqI parts out i).1), (40, natA i)])
            (fun i => [.grow 3 false (ints out), .cells [.int .i64 0, .int .i64 1], .cells [.int .i64 (pqI parts out i).2.1, .int .i64 (pqI parts out i).2.2]]) (fun i => 6 - i) 0 (by omega) rfl
            ⟨rfl, rfl, rfl, rfl, rfl, rfl, rfl, congrArg (fun n : Nat => some (AV.int .i64 n)) (by rw [List.length_map, pkl]), rfl, rfl, trivial⟩ ?_ ?_ ?_
          · intro i _
            constructor
            · intro x hx; simp at hx; rcases hx with rfl | rfl | rfl <;> first | exact lowI _ | rfl
            · intro p hp; simp at hp; rcases hp with rfl | rfl | rfl | rfl | rfl | rfl | rfl | rfl | rfl | rfl <;> first | exact lowI _ | rfl
          · intro i _; simp
          intro i hi
          have sk := pqI_ok pk ok i hi
          have hpn := pqI_succ parts out i
          have hwho : i = 6 → whoR parts out = (pqI parts out i).1 := fun h => by rw [h]; rfl
          generalize pqI parts out i = st at sk hpn hwho
          obtain ⟨who, b1, b2⟩ := st
          dsimp only at sk hwho ⊢
          have hb : ([b1, b2] == [0, 1]) = true ↔ (b1, b2) = ((0 : Int), (1 : Int)) := by simp
          have pv := pk.2 i
          have ov := ok.2 i
          have pv2 : 0 ≤ parts.getD i default ∧ parts.getD i default ≤ 100 * 9 := pv
          have ov2 : 0 ≤ out.getD (i : Int).toNat default ∧ out.getD (i : Int).toNat default ≤ k := ov
          have ow2 : 0 ≤ out.getD (who : Int).toNat default ∧ out.getD (who : Int).toNat default ≤ k := ok.2 who
          have hyes : ((b1, b2) = ((0 : Int), (1 : Int)) ∧ 0 < parts.getD i default) ∨ aboveB (parts.getD i default, 2 * out.getD (i : Int).toNat default + 1) (b1, b2) = true → pqI parts out (i + 1) = (i, parts.getD i default, 2 * out.getD (i : Int).toNat default + 1) := fun h => by rw [hpn]; unfold pq; exact if_pos h
          have hno : ¬ (((b1, b2) = ((0 : Int), (1 : Int)) ∧ 0 < parts.getD i default) ∨ aboveB (parts.getD i default, 2 * out.getD (i : Int).toNat default + 1) (b1, b2) = true) → pqI parts out (i + 1) = (who, b1, b2) := fun h => by rw [hpn]; unfold pq; exact if_neg h
          conv => whnf
          repeat' first | ((first | (with_reducible apply XBr.tt) | (with_reducible apply XBr.ff)); conv => whnf) | ((with_reducible apply XBr.dec) <;> (intro h; first | (exfalso; omega) | ((try simp only [List.length_map] at h); first | (exfalso; omega) | (conv => whnf)))) | ((first | (with_reducible refine XInt.i64 (by omega) (by omega) ?_) | ((with_reducible refine XIx.nat ?_ ?_ ?_); omega; (intro _; rfl)) | (refine XHold.mk ⟨by rw [List.length_map]; exact okl, rfl, by omega, by omega⟩ ?_) | (refine XGet.map (by rw [okl]) (by omega) ?_) | (refine XEqA.mk ⟨[b1, b2], [0, 1], rfl, rfl, rfl, rfl, ?_⟩) | (refine XCall.ret (above_c (parts.getD i default, 2 * out.getD (i : Int).toNat default + 1) (b1, b2) (by dsimp only; omega) (by dsimp only; omega) (by dsimp only; omega) (by dsimp only; omega)) ?_)); conv => whnf) | ((with_reducible apply XBr.mk') <;> (intro h; conv => whnf)) | fail
          · have hy := hyes (.inl ⟨hb.1 (by assumption), h⟩)
            apply Walk.drawX tab_ok mixed_ok [] [3] (hsV _ [id, fun H => H.set 2 (.cells [.int .i64 (parts.getD i default), .int .i64 (2 * out.getD (i : Int).toNat default + 1)])]) [_, _, _, _] (by kernel_rfl) rfl
            · skip
              repeat' first | (with_reducible apply XAnd.mk) | ((first | (with_reducible apply Chk.go) | (with_reducible apply ChkA.go)); conv => whnf) | (exact XSame.mk rfl rfl) | (with_reducible exact trivial) | fail
            · skip
              repeat' first | (with_reducible apply XAnd.mk) | ((first | (with_reducible apply ChkF.go) | (with_reducible apply ChkB.go)); conv => whnf) | (with_reducible exact trivial) | fail
            · conv => whnf
              repeat' first | ((with_reducible refine XInt.i64 (by omega) (by omega) ?_); conv => whnf) | fail
              refine XAgainG.go (i + 1) [.cells [.int .i64 (parts.getD i default), .int .i64 (2 * out.getD (i : Int).toNat default + 1)]] (by omega) (by omega) ?_ ?_
              · rw [hy]; rfl
              · rw [hy]; exact ⟨rfl, rfl, rfl, rfl, rfl, rfl, rfl, rfl, rfl, rfl, trivial⟩
          · have hy := hyes (.inr h)
            apply Walk.drawX tab_ok mixed_ok [] [3] (hsV _ [id, fun H => H.set 2 (.cells [.int .i64 (parts.getD i default), .int .i64 (2 * out.getD (i : Int).toNat default + 1)])]) [_, _, _, _] (by kernel_rfl) rfl
            · skip
              repeat' first | (with_reducible apply XAnd.mk) | ((first | (with_reducible apply Chk.go) | (with_reducible apply ChkA.go)); conv => whnf) | (exact XSame.mk rfl rfl) | (with_reducible exact trivial) | fail
            · skip
              repeat' first | (with_reducible apply XAnd.mk) | ((first | (with_reducible apply ChkF.go) | (with_reducible apply ChkB.go)); conv => whnf) | (with_reducible exact trivial) | fail
            · conv => whnf
              repeat' first | ((with_reducible refine XInt.i64 (by omega) (by omega) ?_); conv => whnf) | fail
              refine XAgainG.go (i + 1) [.cells [.int .i64 (parts.getD i default), .int .i64 (2 * out.getD (i : Int).toNat default + 1)]] (by omega) (by omega) ?_ ?_
              · rw [hy]; rfl
              · rw [hy]; exact ⟨rfl, rfl, rfl, rfl, rfl, rfl, rfl, rfl, rfl, rfl, trivial⟩
          · have hn := hno (fun hh => by
              rcases hh with ⟨_, e⟩ | e
              · exact (by assumption : ¬ 0 < parts.getD i default) e
              · rw [h] at e; cases e)
            refine XAgainG.go (i + 1) [.cells [.int .i64 (parts.getD i default), .int .i64 (2 * out.getD (i : Int).toNat default + 1)]] (by omega) (by omega) ?_ ?_
            · rw [hn]; rfl
            · rw [hn]; exact ⟨rfl, rfl, rfl, rfl, rfl, rfl, rfl, rfl, rfl, rfl, trivial⟩
          · have hy := hyes (.inr h)
            apply Walk.drawX tab_ok mixed_ok [] [3] (hsV _ [id, fun H => H.set 2 (.cells [.int .i64 (parts.getD i default), .int .i64 (2 * out.getD (i : Int).toNat default + 1)])]) [_, _, _, _] (by kernel_rfl) rfl
            · skip
              repeat' first | (with_reducible apply XAnd.mk) | ((first | (with_reducible apply Chk.go) | (with_reducible apply ChkA.go)); conv => whnf) | (exact XSame.mk rfl rfl) | (with_reducible exact trivial) | fail
            · skip
              repeat' first | (with_reducible apply XAnd.mk) | ((first | (with_reducible apply ChkF.go) | (with_reducible apply ChkB.go)); conv => whnf) | (with_reducible exact trivial) | fail
            · conv => whnf
              repeat' first | ((with_reducible refine XInt.i64 (by omega) (by omega) ?_); conv => whnf) | fail
              refine XAgainG.go (i + 1) [.cells [.int .i64 (parts.getD i default), .int .i64 (2 * out.getD (i : Int).toNat default + 1)]] (by omega) (by omega) ?_ ?_
              · rw [hy]; rfl
              · rw [hy]; exact ⟨rfl, rfl, rfl, rfl, rfl, rfl, rfl, rfl, rfl, rfl, trivial⟩
          · have hn := hno (fun hh => by
              rcases hh with ⟨e, _⟩ | e
              · have := hb.2 e; simp_all
              · rw [h] at e; cases e)
            refine XAgainG.go (i + 1) [.cells [.int .i64 (parts.getD i default), .int .i64 (2 * out.getD (i : Int).toNat default + 1)]] (by omega) (by omega) ?_ ?_
            · rw [hn]; rfl
            · rw [hn]; exact ⟨rfl, rfl, rfl, rfl, rfl, rfl, rfl, rfl, rfl, rfl, trivial⟩
          · have hie : i = 6 := by omega
            refine XPut.map (out.getD (who : Int).toNat default + 1) rfl (by rw [okl]) (by omega) ?_
            conv => whnf
            repeat' first | ((with_reducible refine XInt.i64 (by omega) (by omega) ?_); conv => whnf) | fail
            refine XAgainG.go (k + 1) [.cells [.int .i64 0, .int .i64 1], .cells [.int .i64 b1, .int .i64 b2]] (by omega) (by omega) ?_ ⟨rfl, rfl, rfl, rfl, trivial⟩
            rw [hnx]; unfold shareStep; rw [hwho hie]; rfl
        · skip
          rw [hfin (by omega)]
          exact XGive.mk' [0] rfl (by decide) ⟨congrArg some (ren_grow _ _ _ _).symm, trivial⟩ rfl
      · rw [if_neg (fun hh => h hh.1)]
        have pkl := pk.1
        obtain ⟨pn, rfl⟩ := Int.eq_ofNat_of_zero_le hbd.1
        rw [Int.toNat_natCast]
        refine Walk.loopG tab_ok [] (fun k : Nat => k ≤ pn) (fun k => [(7, .sl false (ints parts)), (8, .gr 0 6), (33, natA pn), (34, natA k)])
          (fun k => [.grow 3 false (ints (shareI parts k))]) (fun k => pn - k) 0 (by omega) rfl ⟨rfl, rfl, rfl, rfl, trivial⟩ ?_ ?_ ?_
        · intro k _
          constructor
          · intro x hx; simp at hx; subst hx; exact lowI _
          · intro p hp; simp at hp; rcases hp with rfl | rfl | rfl | rfl <;> first | exact lowI _ | rfl
        · intro k _; simp
        intro k hk
        have ok := shareI_ok pk k
        have hnx : shareI parts (k + 1) = shareStep parts (shareI parts k) := rfl
        have hfin : k = pn → shareI parts pn = shareI parts k := fun h => by rw [h]
        generalize shareI parts k = out at ok hnx hfin
        have okl := ok.1
        conv => whnf
        repeat' first | ((with_reducible apply XBr.dec) <;> (intro h; first | (exfalso; omega) | ((try simp only [List.length_map] at h); first | (exfalso; omega) | (conv => whnf)))) | fail
        rw [hfin (by omega)]
        exact XGive.mk' [0] rfl (by decide) ⟨congrArg some (ren_grow _ _ _ _).symm, trivial⟩ rfl
  · have he : shareE l pay = 3 := by unfold shareE; rw [if_neg (by omega), if_pos h]
    unfold shareG; rw [if_neg (by omega), he]; exact XGive.err rfl
theorem share_c (l : Ld) (pay : Int) (o : LdW l) : Comp Try.prog 74 [ldA l, .int .i64 pay] (shareR l pay) := by
  have x := share_g l pay o
  unfold shareG at x; unfold shareR
  split at x
  · rename_i h
    have pk := (shareI_ok (parts_ok ((checkR_ok l).1 (by unfold shareE at h; split at h <;> omega))) pay.toNat).1
    rw [if_pos h]
    exact x.comp (Froz.tup (.cons (Froz.grow rfl (by rw [List.length_map]; exact pk) (lowI _)) (.cons (Froz.low rfl) .nil)))
  · rename_i h
    rw [if_neg h]
    exact x.comp (Froz.low rfl)
def five : Ld := ⟨50, 10, false, [⟨30, 0⟩, ⟨20, 1⟩, ⟨25, 0⟩, ⟨20, 2⟩, ⟨10, 1⟩], true, [], true, []⟩
def fiveP : Ld := { five with nla := false, apart := [(0, 2)], nlw := false, wth := [(1, 3)] }
def fivePr : Pr := ⟨50, false, [27, 18, 23, 18, 9]⟩
theorem five_ok : checkR five = 0 ∧ checkR fiveP = 0 := by decide +kernel
theorem five_many : manyD (openD five) = 2 := by decide +kernel
theorem five_out : (loadI (openD five) 2 2).out = [0, 0, 1, 1, 1] := by decide +kernel
theorem fiveP_many : manyD (openD fiveP) = 3 := by decide +kernel
theorem fiveP_out : (loadI (openD fiveP) 3 3).out = [0, 1, 2, 1, 0] := by decide +kernel
theorem five_pr : priceE five fivePr = 0 ∧ fairB (openD five) fivePr = true ∧ (fivePr.ps.sum + fivePr.unit - 1) / fivePr.unit = 2 := by decide +kernel
theorem five_share : shareE five 10 = 0 ∧ shareI (partsR five) 10 = [5, 3, 2, 0, 0, 0] := by decide +kernel
theorem five_riddle : riddledR [12, 20, 19, 25] 20 = 0 ∧ keptL [12, 20, 19, 25] 20 = [20, 25] := by decide +kernel
theorem five_w : LdW five := ⟨fun _ => rfl, by decide, by decide, by decide⟩
theorem fiveP_w : LdW fiveP := ⟨(fun h => by cases h), by decide, by decide, by decide⟩
theorem five_c : Comp Try.prog 72 [] (ldA five) := by
  refine Comp.body' (T := tab) (res := [.cell 0 65]) tab_ok [] Try.func72 rfl (by kernel_rfl) Try.ntmps72 rfl (by simp only [List.length_cons, List.length_nil]; decide) (by rfl) ?_; conv => whnf
  repeat' first | ((with_reducible refine XHold.mk ?_ ?_); (first | omega | rfl | decide | exact ⟨rfl, by decide, rfl⟩ | exact wideI _ | exact widePr _ | exact wideSk _ | (unfold Room; constructor <;> ((try simp) <;> omega)) | exact ⟨rfl, by simp only [List.length_map], by unfold Room; constructor <;> ((try simp) <;> omega)⟩ | exact ⟨by omega, by omega, by unfold Room; constructor <;> ((try simp) <;> omega)⟩); conv => whnf) | fail
  exact ⟨Froz.low rfl⟩
theorem five_fewest : fewestR five = .tup [.sl false (ints [0, 0, 1, 1, 1]), .int .i64 2, .int .i64 0] := by
  unfold fewestR; rw [if_pos five_ok.1]; unfold fewestD; rw [five_many, if_neg (by decide), five_out]; rfl
theorem fiveP_fewest : fewestR fiveP = .tup [.sl false (ints [0, 1, 2, 1, 0]), .int .i64 3, .int .i64 0] := by
  unfold fewestR; rw [if_pos five_ok.2]; unfold fewestD; rw [fiveP_many, if_neg (by decide), fiveP_out]; rfl
theorem five_proves : provesR five fivePr = .tup [.int .i64 2, .int .i64 0] := by
  unfold provesR; rw [if_pos five_ok.1, if_pos five_pr.1, if_pos five_pr.2.1, five_pr.2.2]
theorem five_shareR : shareR five 10 = .tup [.sl false (ints [5, 3, 2, 0, 0, 0]), .int .i64 0] := by
  unfold shareR; rw [if_pos five_share.1, show (10 : Int).toNat = 10 from rfl, five_share.2]
theorem five_riddleR : riddleR [12, 20, 19, 25] 20 = .tup [.sl false (ints [20, 25]), slA (thruL [12, 20, 19, 25] 20), .int .i64 0] := by
  unfold riddleR; rw [if_pos five_riddle.1]; unfold riddleA; rw [five_riddle.2]; rfl
theorem cFive : Comp Try.prog 25 [ldA five] (.tup [.sl false (ints [0, 0, 1, 1, 1]), .int .i64 2, .int .i64 0]) := five_fewest ▸ fewest_c five five_w.w five_w.h1 five_w.h2 five_w.h3
theorem cFiveP : Comp Try.prog 25 [ldA fiveP] (.tup [.sl false (ints [0, 1, 2, 1, 0]), .int .i64 3, .int .i64 0]) := fiveP_fewest ▸ fewest_c fiveP fiveP_w.w fiveP_w.h1 fiveP_w.h2 fiveP_w.h3
theorem cRid : Comp Try.prog 73 [.sl false (ints [12, 20, 19, 25]), .int .i64 20] (.tup [.sl false (ints [20, 25]), slA (thruL [12, 20, 19, 25] 20), .int .i64 0]) := five_riddleR ▸ riddle_c false [12, 20, 19, 25] 20 (by decide)
theorem cShare : Comp Try.prog 74 [ldA five, .int .i64 10] (.tup [.sl false (ints [5, 3, 2, 0, 0, 0]), .int .i64 0]) := five_shareR ▸ share_c five 10 five_w
theorem cProves : Comp Try.prog 75 [ldA five, pcA fivePr] (.tup [.int .i64 2, .int .i64 0]) := five_proves ▸ proves_c five fivePr five_w (by decide)
theorem cEq (xs : List Int) (h : xs.length ≤ 100000) : Comp Try.prog 76 [.sl false (ints xs), .sl false (ints xs)] (.bool true) := by
  have := eq_int false false xs xs h
  rwa [show (xs == xs) = true from beq_self_eq_true xs] at this
theorem cEq1 : Comp Try.prog 76 [.sl false (ints [0, 0, 1, 1, 1]), .sl false [.int .i64 0, .int .i64 0, .int .i64 1, .int .i64 1, .int .i64 1]] (.bool true) := cEq [0, 0, 1, 1, 1] (by decide)
theorem cEq2 : Comp Try.prog 76 [.sl false (ints [20, 25]), .sl false [.int .i64 20, .int .i64 25]] (.bool true) := cEq [20, 25] (by decide)
theorem cEq3 : Comp Try.prog 76 [.sl false (ints [5, 3, 2, 0, 0, 0]), .sl false [.int .i64 5, .int .i64 3, .int .i64 2, .int .i64 0, .int .i64 0, .int .i64 0]] (.bool true) := cEq [5, 3, 2, 0, 0, 0] (by decide)
theorem cEq4 : Comp Try.prog 76 [.sl false (ints [0, 1, 2, 1, 0]), .sl false [.int .i64 0, .int .i64 1, .int .i64 2, .int .i64 1, .int .i64 0]] (.bool true) := cEq [0, 1, 2, 1, 0] (by decide)
theorem awake_c : Comp Try.prog 33 [] (.bool true) := by
  refine Comp.body' (T := tab) (res := [.tmp 0]) tab_ok [] Try.func33 rfl (by kernel_rfl) Try.ntmps33 rfl (by simp only [List.length_cons, List.length_nil]; decide) (by rfl) ?_; conv => whnf
  refine XCall.ret five_c ?_
  conv => whnf
  refine XCall.ret cFive ?_
  conv => whnf
  repeat' first | ((with_reducible refine XHold.mk ?_ ?_); (first | omega | rfl | decide | exact ⟨rfl, by decide, rfl⟩ | exact wideI _ | exact widePr _ | exact wideSk _ | (unfold Room; constructor <;> ((try simp) <;> omega)) | exact ⟨rfl, by simp only [List.length_map], by unfold Room; constructor <;> ((try simp) <;> omega)⟩ | exact ⟨by omega, by omega, by unfold Room; constructor <;> ((try simp) <;> omega)⟩); conv => whnf) | fail
  refine XCall.ret cRid ?_
  conv => whnf
  refine XCall.ret five_c ?_
  conv => whnf
  refine XCall.ret cShare ?_
  conv => whnf
  refine XCall.ret five_c ?_
  conv => whnf
  repeat' first | ((with_reducible refine XHold.mk ?_ ?_); (first | omega | rfl | decide | exact ⟨rfl, by decide, rfl⟩ | exact wideI _ | exact widePr _ | exact wideSk _ | (unfold Room; constructor <;> ((try simp) <;> omega)) | exact ⟨rfl, by simp only [List.length_map], by unfold Room; constructor <;> ((try simp) <;> omega)⟩ | exact ⟨by omega, by omega, by unfold Room; constructor <;> ((try simp) <;> omega)⟩); conv => whnf) | fail
  refine XCall.ret cFiveP ?_
  conv => whnf
  refine XCall.ret five_c ?_
  conv => whnf
  repeat' first | ((with_reducible refine XHold.mk ?_ ?_); (first | omega | rfl | decide | exact ⟨rfl, by decide, rfl⟩ | exact wideI _ | exact widePr _ | exact wideSk _ | (unfold Room; constructor <;> ((try simp) <;> omega)) | exact ⟨rfl, by simp only [List.length_map], by unfold Room; constructor <;> ((try simp) <;> omega)⟩ | exact ⟨by omega, by omega, by unfold Room; constructor <;> ((try simp) <;> omega)⟩); conv => whnf) | fail
  refine XCall.ret cProves ?_
  conv => whnf
  refine Walk.norm tab_ok [] [(3, .int .i64 0), (6, .int .i64 0), (8, .int .i64 0), (12, .int .i64 0), (14, .int .i64 0), (1, .sl false (ints [0, 0, 1, 1, 1])), (2, .int .i64 2), (4, .sl false (ints [20, 25])), (7, .sl false (ints [5, 3, 2, 0, 0, 0])), (10, .sl false (ints [0, 1, 2, 1, 0])), (11, .int .i64 3), (13, .int .i64 2)] ⟨rfl, rfl, rfl, rfl, rfl, rfl, rfl, rfl, rfl, rfl, rfl, rfl, trivial⟩ ?_
  conv => whnf
  repeat' first | ((with_reducible apply XBr.tt); conv => whnf) | ((with_reducible apply XBr.beq) <;> (intro h; first | (exfalso; omega) | (conv => whnf))) | ((with_reducible refine XHold.mk ?_ ?_); (first | omega | rfl | decide | exact ⟨rfl, by decide, rfl⟩ | exact wideI _ | exact widePr _ | exact wideSk _ | (unfold Room; constructor <;> ((try simp) <;> omega)) | exact ⟨rfl, by simp only [List.length_map], by unfold Room; constructor <;> ((try simp) <;> omega)⟩ | exact ⟨by omega, by omega, by unfold Room; constructor <;> ((try simp) <;> omega)⟩); conv => whnf) | fail
  refine XCall.ret cEq1 ?_
  conv => whnf
  repeat' first | ((with_reducible apply XBr.tt); conv => whnf) | ((with_reducible apply XBr.beq) <;> (intro h; first | (exfalso; omega) | (conv => whnf))) | ((with_reducible refine XHold.mk ?_ ?_); (first | omega | rfl | decide | exact ⟨rfl, by decide, rfl⟩ | exact wideI _ | exact widePr _ | exact wideSk _ | (unfold Room; constructor <;> ((try simp) <;> omega)) | exact ⟨rfl, by simp only [List.length_map], by unfold Room; constructor <;> ((try simp) <;> omega)⟩ | exact ⟨by omega, by omega, by unfold Room; constructor <;> ((try simp) <;> omega)⟩); conv => whnf) | fail
  refine XCall.ret cEq2 ?_
  conv => whnf
  repeat' first | ((with_reducible apply XBr.tt); conv => whnf) | ((with_reducible refine XHold.mk ?_ ?_); (first | omega | rfl | decide | exact ⟨rfl, by decide, rfl⟩ | exact wideI _ | exact widePr _ | exact wideSk _ | (unfold Room; constructor <;> ((try simp) <;> omega)) | exact ⟨rfl, by simp only [List.length_map], by unfold Room; constructor <;> ((try simp) <;> omega)⟩ | exact ⟨by omega, by omega, by unfold Room; constructor <;> ((try simp) <;> omega)⟩); conv => whnf) | fail
  refine XCall.ret cEq3 ?_
  conv => whnf
  repeat' first | ((with_reducible apply XBr.tt); conv => whnf) | ((with_reducible refine XHold.mk ?_ ?_); (first | omega | rfl | decide | exact ⟨rfl, by decide, rfl⟩ | exact wideI _ | exact widePr _ | exact wideSk _ | (unfold Room; constructor <;> ((try simp) <;> omega)) | exact ⟨rfl, by simp only [List.length_map], by unfold Room; constructor <;> ((try simp) <;> omega)⟩ | exact ⟨by omega, by omega, by unfold Room; constructor <;> ((try simp) <;> omega)⟩); conv => whnf) | fail
  refine XCall.ret cEq4 ?_
  conv => whnf
  repeat' first | ((with_reducible apply XBr.tt); conv => whnf) | ((with_reducible apply XBr.beq) <;> (intro h; first | (exfalso; omega) | (conv => whnf))) | fail
  exact ⟨Froz.low rfl⟩
abbrev bytes (xs : List Int) : List AV := xs.map (.int .u8)
theorem lowBy {n : Nat} (xs : List Int) : lowL n (bytes xs) = true := lowL_map (fun _ => rfl) xs
structure Hp where
  nl : Bool
  bs : List Int
  nx : Nat
  rd : Int
  deriving Inhabited
def hpC (h : Hp) : Blk := .cells [.sl h.nl (bytes h.bs), .int .i64 h.nx, .int .u32 h.rd]
structure Hp.Ok (h : Hp) : Prop where
  l : h.bs.length < 9223372036854775808
  n : h.nx < h.bs.length ∨ h.nx = 0
def hpN (h : Hp) : Int := IntKind.u32.wrap (40503 * IntKind.u32.wrap (h.rd + 1))
def hpM (h : Hp) : Int := if h.nx < h.bs.length then IntKind.u32.wrap (hpN h + IntKind.u32.wrap (331 * IntKind.u32.wrap (h.bs.getD h.nx default))) else hpN h
def hpV' (n : Int) : Int := iand .u32 (ixor .u32 n (n.fdiv (2 ^ (min (9 : Int).toNat IntKind.u32.bits)))) 32767
def hpV (h : Hp) : Int := hpV' (hpM h)
def hpS (h : Hp) : Hp := if h.bs.length ≤ h.nx + 1 then ⟨h.nl, h.bs, 0, IntKind.u32.wrap (h.rd + 1)⟩ else ⟨h.nl, h.bs, h.nx + 1, h.rd⟩
theorem hpV_bound (n : Int) : 0 ≤ hpV' n ∧ hpV' n ≤ 32767 := by
  unfold hpV' iand
  have h1 : (BitVec.ofInt IntKind.u32.bits (ixor .u32 n (n.fdiv (2 ^ (min (9 : Int).toNat IntKind.u32.bits)))) &&& BitVec.ofInt IntKind.u32.bits 32767).toNat ≤ 32767 := by
    rw [BitVec.toNat_and]
    exact Nat.le_trans Nat.and_le_right (by decide)
  generalize (BitVec.ofInt IntKind.u32.bits (ixor .u32 n (n.fdiv (2 ^ (min (9 : Int).toNat IntKind.u32.bits)))) &&& BitVec.ofInt IntKind.u32.bits 32767).toNat = m at h1 ⊢
  simp only [IntKind.wrap, IntKind.bits, IntKind.signed]
  constructor <;> simp <;> omega
theorem hpS_ok {h : Hp} (o : h.Ok) : (hpS h).Ok := by
  unfold hpS; split
  · exact ⟨o.l, .inr rfl⟩
  · exact ⟨o.l, .inl (by dsimp only; omega)⟩
theorem hpC_low {n : Nat} (h : Hp) : (hpC h).low n = true := by simp only [hpC, Blk.low, lowL, AV.low, lowBy]; rfl
theorem hpC_ren (f : Nat → Nat) (h : Hp) : (hpC h).ren f = hpC h := Blk.ren_low (n := 0) (fun i hi => by omega) (hpC_low h)

theorem XInt.w {q : IntKind} {x : Int} {k : AV → Prop} (h : k (.int q (q.wrap x))) : XInt q x k := ⟨h⟩

def HpOk (f : FuncId) (qs : List AV) (h : Hp) (r : AV) (h' : Hp) : Prop :=
  lowL 0 qs = true ∧ ACall Try.prog f (.ptr 0 0 :: qs) [hpC h] fun r' H' => r' = r ∧ H' = [hpC h']
theorem XCall.hp {f : FuncId} {qs : List AV} {h h' : Hp} {r : AV} (x : HpOk f qs h r h') (hr : r.low 0 = true) {H : List Blk} {k : AV → List Blk → Prop} {j : Nat} (h0 : lget H j = some (hpC h))
    (hk : k r (H.set j (hpC h'))) : XCall Try.prog f (.ptr j 0 :: qs) H k := by
  constructor
  have e := ACall.frame (ρ := fun i => j + i) (H := H) (k := k) x.2 (fun a b _ _ h => by have : j + a = j + b := h; omega) ?_ (fun y hy => by simp at hy; subst hy; exact hpC_low h) ?_ ?_
  · have hd : renL (fun i => j + i) qs = qs := renL_low0 x.1
    rw [List.map_cons, ← renL_eq, hd] at e
    exact e
  · intro i x1 hi
    rw [lget_eq] at h0
    rcases i with _ | i
    · simp only [List.getElem?_cons_zero, Option.some.injEq] at hi; subst hi
      rw [hpC_ren]; exact h0
    · simp at hi
  · simp only [lowL, AV.low, lowL_mono (Nat.zero_le _) x.1]; rfl
  · rintro r1 H1' ⟨rfl, rfl⟩
    rw [lget_eq] at h0
    have hj := (List.getElem?_eq_some_iff.1 h0).1
    refine ⟨rfl, H.set j (hpC h'), by simp, fun i x1 hi => ?_, fun q hq => ?_, ?_⟩
    · rcases i with _ | i
      · simp only [List.getElem?_cons_zero, Option.some.injEq] at hi; subst hi
        rw [hpC_ren]; simp [hj]
      · simp at hi
    · exact List.getElem?_set_ne (by have := hq 0 (by simp); simpa using this)
    · rw [AV.ren_low (n := 0) (fun i hi => by omega) hr]; exact hk

theorem hpM_lt {u : Hp} (h : (u.nx : Int) < u.bs.length) : hpM u = IntKind.u32.wrap (hpN u + IntKind.u32.wrap (331 * IntKind.u32.wrap (u.bs.getD u.nx default))) := if_pos (by omega)
theorem hpM_ge {u : Hp} (h : ¬ (u.nx : Int) < u.bs.length) : hpM u = hpN u := if_neg (by omega)
theorem hpS_end {u : Hp} (h : (u.bs.length : Int) ≤ u.nx + 1) : [hpC (hpS u)] = [Blk.cells [AV.sl u.nl (bytes u.bs), AV.int IntKind.i64 0, AV.int IntKind.u32 (IntKind.u32.wrap (u.rd + 1))]] := by
  unfold hpS; rw [if_pos (by omega)]; rfl
theorem hpS_on {u : Hp} (h : ¬ (u.bs.length : Int) ≤ u.nx + 1) : [hpC (hpS u)] = [Blk.cells [AV.sl u.nl (bytes u.bs), AV.int IntKind.i64 (u.nx + 1), AV.int IntKind.u32 u.rd]] := by
  unfold hpS; rw [if_neg (by omega)]; rfl
theorem i64_small {n : Int} (h1 : 0 ≤ n) (h2 : n ≤ 32767) : IntKind.i64.wrap n = n := by
  simp only [IntKind.wrap, IntKind.bits, IntKind.signed]; simp; omega
theorem pick_end {u : Hp} {n : Int} {H1 : List Blk} (hn : hpM u = n) (hS : [hpC (hpS u)] = H1) : XCut [hpC u].length [] H1 (.int .i64 (IntKind.i64.wrap (hpV' n))) fun r' H' => r' = .int .i64 (hpV u) ∧ H' = [hpC (hpS u)] := by
  subst hn; subst hS
  obtain ⟨h1, h2⟩ := hpV_bound (hpM u)
  rw [i64_small h1 h2]
  exact XCut.mk' [hpC (hpS u)] [] rfl rfl (fun x hx => by simp only [List.mem_cons, List.not_mem_nil, or_false] at hx; subst hx; exact hpC_low _) rfl ⟨rfl, rfl⟩
theorem pick_c (u : Hp) (o : u.Ok) : HpOk 50 [] u (.int .i64 (hpV u)) (hpS u) := by
  have hl := o.l
  have hn := o.n
  refine ⟨rfl, ?_⟩
  refine ACall.bodyK (T := tab) (res := [.tmp 2]) tab_ok [] Try.func50 rfl (by kernel_rfl) Try.ntmps50 rfl (by simp only [List.length_cons, List.length_nil]; decide) ?_; conv => whnf
  repeat' first | ((refine XInt.w ?_); conv => whnf) | fail
  apply Walk.drawX tab_ok mixed_ok [] [] (hsK _) [_, _, _, _, _, _, _, _, _, _] (by kernel_rfl) rfl
  · skip
    repeat' first | (with_reducible apply XAnd.mk) | ((first | (with_reducible apply Chk.go) | (with_reducible apply ChkA.go)); conv => whnf) | (exact XSame.mk rfl rfl) | (with_reducible exact trivial) | fail
  · skip
    repeat' first | (with_reducible apply XAnd.mk) | ((first | (with_reducible apply ChkF.go) | (with_reducible apply ChkB.go)); conv => whnf) | (with_reducible exact trivial) | fail
  · conv => whnf
    repeat' first | ((with_reducible apply XBr.dec) <;> (intro h; first | (exfalso; omega) | ((try simp only [List.length_map] at h); first | (exfalso; omega) | (conv => whnf)))) | ((with_reducible refine XInt.i64 (by omega) (by omega) ?_); conv => whnf) | fail
    · apply Walk.drawX tab_ok mixed_ok [] [] (hsK _) [_, _, _, _, _, _, _, _, _, _, _, _, _, _, _] (by kernel_rfl) rfl
      · skip
        repeat' first | (((with_reducible refine XIx.nat ?_ ?_ ?_); omega; (intro _; rfl)); conv => whnf) | (with_reducible apply XAnd.mk) | ((first | (with_reducible apply Chk.go) | (with_reducible apply ChkA.go)); conv => whnf) | (exact XSame.mk rfl rfl) | (with_reducible exact trivial) | ((refine XInt.w ?_); conv => whnf) | fail
      · skip
        repeat' first | (with_reducible apply XAnd.mk) | ((first | (with_reducible apply ChkF.go) | (with_reducible apply ChkB.go)); conv => whnf) | (with_reducible exact trivial) | fail
      · conv => whnf
        repeat' first | ((with_reducible refine XInt.i64 (by omega) (by omega) ?_); conv => whnf) | fail
        apply Walk.drawX tab_ok mixed_ok [] [] (hsK _) [_, _, _, _, _, _, _, _, _, _] (by kernel_rfl) rfl
        · skip
          repeat' first | (with_reducible apply XAnd.mk) | ((first | (with_reducible apply Chk.go) | (with_reducible apply ChkA.go)); conv => whnf) | (exact XSame.mk rfl rfl) | (with_reducible exact trivial) | fail
        · skip
          repeat' first | (with_reducible apply XAnd.mk) | ((first | (with_reducible apply ChkF.go) | (with_reducible apply ChkB.go)); conv => whnf) | (with_reducible exact trivial) | fail
        · conv => whnf
          repeat' first | ((with_reducible apply XBr.dec) <;> (intro h; first | (exfalso; omega) | ((try simp only [List.length_map] at h); first | (exfalso; omega) | (conv => whnf)))) | ((with_reducible refine XHold.mk ?_ ?_); (first | omega | rfl | decide | exact ⟨rfl, by decide, rfl⟩ | exact wideI _ | exact widePr _ | exact wideSk _ | (unfold Room; constructor <;> ((try simp) <;> omega)) | exact ⟨rfl, by simp only [List.length_map], by unfold Room; constructor <;> ((try simp) <;> omega)⟩ | exact ⟨by omega, by omega, by unfold Room; constructor <;> ((try simp) <;> omega)⟩); conv => whnf) | ((refine XInt.w ?_); conv => whnf) | fail
          · exact pick_end (hpM_lt (by assumption)) (hpS_end h)
          · exact pick_end (hpM_lt (by assumption)) (hpS_on h)
    · skip
      apply Walk.drawX tab_ok mixed_ok [] [] (hsK _) [_, _, _, _, _, _, _, _, _, _] (by kernel_rfl) rfl
      · skip
        repeat' first | (with_reducible apply XAnd.mk) | ((first | (with_reducible apply Chk.go) | (with_reducible apply ChkA.go)); conv => whnf) | (exact XSame.mk rfl rfl) | (with_reducible exact trivial) | fail
      · skip
        repeat' first | (with_reducible apply XAnd.mk) | ((first | (with_reducible apply ChkF.go) | (with_reducible apply ChkB.go)); conv => whnf) | (with_reducible exact trivial) | fail
      · conv => whnf
        repeat' first | ((with_reducible apply XBr.dec) <;> (intro h; first | (exfalso; omega) | ((try simp only [List.length_map] at h); first | (exfalso; omega) | (conv => whnf)))) | ((with_reducible refine XHold.mk ?_ ?_); (first | omega | rfl | decide | exact ⟨rfl, by decide, rfl⟩ | exact wideI _ | exact widePr _ | exact wideSk _ | (unfold Room; constructor <;> ((try simp) <;> omega)) | exact ⟨rfl, by simp only [List.length_map], by unfold Room; constructor <;> ((try simp) <;> omega)⟩ | exact ⟨by omega, by omega, by unfold Room; constructor <;> ((try simp) <;> omega)⟩); conv => whnf) | ((refine XInt.w ?_); conv => whnf) | fail
        · exact pick_end (hpM_ge (by assumption)) (hpS_end h)

end GA
end

section
namespace GA
open Go Go.RowKit Go.Proofs
set_option pp.deepTerms true
set_option maxRecDepth 8000
set_option linter.unusedVariables false
set_option linter.unusedSimpArgs false
def modV (h : Hp) (n : Int) : Int := (hpV h).tmod (max 1 (n + 1))
theorem modV_bound (h : Hp) (n : Int) : 0 ≤ modV h n ∧ modV h n ≤ max 0 n := by
  have hb := hpV_bound (hpM h)
  have h1 : 0 ≤ hpV h := hb.1
  unfold modV
  rw [Int.tmod_eq_emod_of_nonneg h1]
  have h2 := Int.emod_nonneg (hpV h) (show max 1 (n + 1) ≠ 0 by omega)
  have h3 := Int.emod_lt_of_pos (hpV h) (show 0 < max 1 (n + 1) by omega)
  omega
theorem hp_end {u u' : Hp} {r : AV} (hr : r.low 1 = true) : XCut [hpC u].length [] [hpC u'] r fun r' H' => r' = r ∧ H' = [hpC u'] :=
  XCut.mk' [hpC u'] [] rfl rfl (fun x hx => by simp only [List.mem_cons, List.not_mem_nil, or_false] at hx; subst hx; exact hpC_low _) hr ⟨rfl, rfl⟩
theorem upto_c (u : Hp) (n : Int) (o : u.Ok) (h1 : -100000 ≤ n) (h2 : n ≤ 100000) : HpOk 16 [.int .i64 n] u (.int .i64 (modV u n)) (hpS u) := by
  refine ⟨rfl, ?_⟩
  refine ACall.bodyK (T := tab) (res := [.tmp 4]) tab_ok [] Try.func16 rfl (by kernel_rfl) Try.ntmps16 rfl (by simp only [List.length_cons, List.length_nil]; decide) ?_; conv => whnf
  refine XCall.hp (j := 0) (pick_c u o) rfl rfl ?_
  conv => whnf
  repeat' first | ((with_reducible refine XInt.i64 (by omega) (by omega) ?_); conv => whnf) | ((with_reducible refine XHold.mk ?_ ?_); (first | omega | rfl | decide | exact ⟨rfl, by decide, rfl⟩ | exact wideI _ | exact widePr _ | exact wideSk _ | (unfold Room; constructor <;> ((try simp) <;> omega)) | exact ⟨rfl, by simp only [List.length_map], by unfold Room; constructor <;> ((try simp) <;> omega)⟩ | exact ⟨by omega, by omega, by unfold Room; constructor <;> ((try simp) <;> omega)⟩); conv => whnf) | fail
  exact hp_end rfl
theorem from_c (u : Hp) (lo hi : Int) (o : u.Ok) (h1 : -10000 ≤ lo) (h2 : lo ≤ 10000) (h3 : -10000 ≤ hi) (h4 : hi ≤ 10000) : HpOk 15 [.int .i64 lo, .int .i64 hi] u (.int .i64 (lo + modV u (hi - lo))) (hpS u) := by
  have hb := modV_bound u (hi - lo)
  refine ⟨rfl, ?_⟩
  refine ACall.bodyK (T := tab) (res := [.tmp 6]) tab_ok [] Try.func15 rfl (by kernel_rfl) Try.ntmps15 rfl (by simp only [List.length_cons, List.length_nil]; decide) ?_; conv => whnf
  repeat' first | ((first | (with_reducible refine XInt.i64 (by omega) (by omega) ?_) | (refine XCall.hp (j := 0) (upto_c u (hi - lo) o (by omega) (by omega)) rfl rfl ?_)); conv => whnf) | fail
  exact hp_end rfl
theorem once_c (u : Hp) (n : Int) (o : u.Ok) (h1 : -10000 ≤ n) (h2 : n ≤ 10000) : HpOk 28 [.int .i64 n] u (.bool (modV u (n - 1) == 0)) (hpS u) := by
  have hb := modV_bound u (n - 1)
  refine ⟨rfl, ?_⟩
  refine ACall.bodyK (T := tab) (res := [.tmp 4]) tab_ok [] Try.func28 rfl (by kernel_rfl) Try.ntmps28 rfl (by simp only [List.length_cons, List.length_nil]; decide) ?_; conv => whnf
  repeat' first | ((first | (with_reducible refine XInt.i64 (by omega) (by omega) ?_) | (refine XCall.hp (j := 0) (upto_c u (n - 1) o (by omega) (by omega)) rfl rfl ?_)); conv => whnf) | fail
  exact hp_end rfl
def mdK (u : Hp) : Nat → List Sk × Hp
  | 0 => ([], u)
  | k + 1 => ((mdK u k).1 ++ [⟨1 + modV (mdK u k).2 59, modV (hpS (mdK u k).2) 5⟩], hpS (hpS (mdK u k).2))
theorem mdK_ok {u : Hp} (o : u.Ok) : ∀ k, (mdK u k).2.Ok ∧ (mdK u k).1.length = k
  | 0 => ⟨o, rfl⟩
  | k + 1 => by
    obtain ⟨h1, h2⟩ := mdK_ok o k
    exact ⟨hpS_ok (hpS_ok h1), by simp [mdK, h2]⟩
theorem mdK_sk {u : Hp} : ∀ k, ∀ s ∈ (mdK u k).1, 1 ≤ s.m ∧ s.m ≤ 60 ∧ 0 ≤ s.o ∧ s.o ≤ 5
  | 0, s, h => by simp [mdK] at h
  | k + 1, s, h => by
    rw [mdK, List.mem_append] at h
    rcases h with h | h
    · exact mdK_sk k s h
    · simp only [List.mem_singleton] at h; subst h
      have h1 := modV_bound (mdK u k).2 59
      have h2 := modV_bound (hpS (mdK u k).2) 5
      dsimp only; omega
structure Prs where
  ap : List (Int × Int)
  wt : List (Int × Int)
  u : Hp
def prA1 (n : Int) (u : Hp) : Int := modV u (n - 1)
def prB1 (n : Int) (u : Hp) : Int := (prA1 n u + (1 + modV (hpS u) (n - 1 - 1))).tmod n
def prS (n : Int) (s : Prs) : Prs :=
  if (modV (hpS (hpS s.u)) (2 - 1) == 0) = true then ⟨s.ap ++ [(prA1 n s.u, prB1 n s.u)], s.wt, hpS (hpS (hpS s.u))⟩ else ⟨s.ap, s.wt ++ [(prA1 n s.u, prB1 n s.u)], hpS (hpS (hpS s.u))⟩
def prK (n : Int) (u : Hp) : Nat → Prs
  | 0 => ⟨[], [], u⟩
  | k + 1 => prS n (prK n u k)
theorem prK_ok {n : Int} {u : Hp} (o : u.Ok) : ∀ k, (prK n u k).u.Ok ∧ (prK n u k).ap.length + (prK n u k).wt.length = k
  | 0 => ⟨o, rfl⟩
  | k + 1 => by
    obtain ⟨h1, h2⟩ := prK_ok (n := n) o k
    unfold prK prS
    split
    · exact ⟨hpS_ok (hpS_ok (hpS_ok h1)), by simp; omega⟩
    · exact ⟨hpS_ok (hpS_ok (hpS_ok h1)), by simp; omega⟩
theorem prAB {n : Int} (u : Hp) (hn : 1 < n) : 0 ≤ prA1 n u ∧ prA1 n u < n ∧ 0 ≤ prB1 n u ∧ prB1 n u < n ∧ prA1 n u ≠ prB1 n u := by
  have h1 := modV_bound u (n - 1)
  have h2 := modV_bound (hpS u) (n - 1 - 1)
  unfold prB1 prA1
  generalize modV u (n - 1) = a at h1 ⊢
  generalize modV (hpS u) (n - 1 - 1) = b at h2 ⊢
  rw [Int.tmod_eq_emod_of_nonneg (by omega)]
  have h3 := Int.emod_nonneg (a + (1 + b)) (show n ≠ 0 by omega)
  have h4 := Int.emod_lt_of_pos (a + (1 + b)) (show 0 < n by omega)
  refine ⟨by omega, by omega, h3, h4, fun e => ?_⟩
  have h5 := Int.emod_add_mul_ediv (a + (1 + b)) n
  rcases Int.lt_or_le (a + (1 + b)) n with hlt | hle
  · rw [Int.emod_eq_of_lt (by omega) hlt] at e; omega
  · have : (a + (1 + b)) / n = 1 := by
      rw [Int.ediv_eq_iff_of_pos (by omega)]; omega
    rw [this] at h5; omega
theorem prK_in {n : Int} {u : Hp} (hn : 1 < n) : ∀ k, (∀ p ∈ (prK n u k).ap, 0 ≤ p.1 ∧ p.1 < n ∧ 0 ≤ p.2 ∧ p.2 < n ∧ p.1 ≠ p.2) ∧ ∀ p ∈ (prK n u k).wt, 0 ≤ p.1 ∧ p.1 < n ∧ 0 ≤ p.2 ∧ p.2 < n ∧ p.1 ≠ p.2
  | 0 => by simp [prK]
  | k + 1 => by
    obtain ⟨h1, h2⟩ := prK_in (u := u) hn k
    have h3 := prAB (prK n u k).u hn
    unfold prK prS
    split
    · refine ⟨fun p hp => ?_, h2⟩
      rcases List.mem_append.1 hp with hp | hp
      · exact h1 p hp
      · simp only [List.mem_singleton] at hp; subst hp; exact h3
    · refine ⟨h1, fun p hp => ?_⟩
      rcases List.mem_append.1 hp with hp | hp
      · exact h2 p hp
      · simp only [List.mem_singleton] at hp; subst hp; exact h3
def mdSk (u : Hp) (sacks : Int) : List Sk × Hp := mdK (hpS (hpS (hpS u))) (modV (hpS (hpS u)) sacks).toNat
def mdPr (u : Hp) (sacks pairs : Int) : Prs := if 1 < (mdSk u sacks).1.length then prK (mdSk u sacks).1.length (hpS (mdSk u sacks).2) (modV (mdSk u sacks).2 pairs).toNat else ⟨[], [], (mdSk u sacks).2⟩
def madeL (u : Hp) (sacks pairs : Int) : Ld := ⟨20 + modV u 80, modV (hpS u) 6 * 10, (mdSk u sacks).1.isEmpty, (mdSk u sacks).1, (mdPr u sacks pairs).ap.isEmpty, (mdPr u sacks pairs).ap, (mdPr u sacks pairs).wt.isEmpty, (mdPr u sacks pairs).wt⟩
def madeH (u : Hp) (sacks pairs : Int) : Hp := (mdPr u sacks pairs).u
theorem madeL_ok (u : Hp) (sacks pairs : Int) (h1 : 0 ≤ sacks) (h2 : sacks ≤ 9) (h3 : 0 ≤ pairs) (h4 : pairs ≤ 8) (o : u.Ok) : LdOk (madeL u sacks pairs) := by
  have g1 := modV_bound u 80
  have g2 := modV_bound (hpS u) 6
  have g3 := modV_bound (hpS (hpS u)) sacks
  have g4 := modV_bound (mdSk u sacks).2 pairs
  have k1 := mdK_ok (hpS_ok (hpS_ok (hpS_ok o))) (modV (hpS (hpS u)) sacks).toNat
  have hl : (mdSk u sacks).1.length ≤ 9 := by show (mdK _ _).1.length ≤ 9; omega
  have hp : (mdPr u sacks pairs).ap.length + (mdPr u sacks pairs).wt.length ≤ 8 := by
    unfold mdPr
    split
    · have := (prK_ok (n := (mdSk u sacks).1.length) (u := hpS (mdSk u sacks).2) (hpS_ok k1.1) (modV (mdSk u sacks).2 pairs).toNat).2
      omega
    · simp
  have hin : (∀ p ∈ (mdPr u sacks pairs).ap, 0 ≤ p.1 ∧ p.1 < (mdSk u sacks).1.length ∧ 0 ≤ p.2 ∧ p.2 < (mdSk u sacks).1.length ∧ p.1 ≠ p.2) ∧ ∀ p ∈ (mdPr u sacks pairs).wt, 0 ≤ p.1 ∧ p.1 < (mdSk u sacks).1.length ∧ 0 ≤ p.2 ∧ p.2 < (mdSk u sacks).1.length ∧ p.1 ≠ p.2 := by
    unfold mdPr
    split
    · exact prK_in (by omega) _
    · simp
  exact ⟨hl, by show (mdPr u sacks pairs).ap.length ≤ 8; omega, by show (mdPr u sacks pairs).wt.length ≤ 8; omega, by show 1 ≤ 20 + modV u 80; omega, by show 20 + modV u 80 ≤ 100; omega, by show 0 ≤ modV (hpS u) 6 * 10; omega, by show modV (hpS u) 6 * 10 ≤ 90; omega,
    fun s hs => by have := mdK_sk _ s hs; omega, hin.1, hin.2⟩

theorem isEmpty_app {α : Type} (l : List α) (x : α) : (l ++ [x]).isEmpty = (l.isEmpty && false) := by cases l <;> rfl
theorem made_end {H : List Blk} {r' : AV} (b s : Int) (ss : List Sk) (ap wt : List (Int × Int)) (x : Hp) {C : Blk} {C2 : Blk} (hH : H = [hpC x, C, C2, .grow 74 ss.isEmpty (ss.map skA), .grow 76 ap.isEmpty (ap.map prA), .grow 76 wt.isEmpty (wt.map prA)])
    (hr : r' = .agg [.int .i64 b, .int .i64 s, .gr 3 ss.length, .gr 4 ap.length, .gr 5 wt.length]) {n : Nat} (hn : n = 1) : XEnd Try.prog n H r' (ldA ⟨b, s, ss.isEmpty, ss, ap.isEmpty, ap, wt.isEmpty, wt⟩) [hpC x] := by
  subst hH; subst hr; subst hn
  refine ⟨rfl, rfl, fun y hy => by simp only [List.mem_cons, List.not_mem_nil, or_false] at hy; subst hy; exact hpC_low _, ?_⟩
  refine FrozN.agg ?_ (.cons (.low rfl) (.cons (.low rfl) (.cons (.grow (by decide) rfl (List.length_map _) (lowSk _)) (.cons (.grow (by decide) rfl (List.length_map _) (lowPr _)) (.cons (.grow (by decide) rfl (List.length_map _) (lowPr _)) .nil)))))
  intro y hy
  simp only [ldC, List.mem_cons, List.not_mem_nil, or_false] at hy
  rcases hy with rfl | rfl | rfl | rfl | rfl <;> rfl
theorem made_c (u : Hp) (sacks pairs : Int) (o : u.Ok) (h1 : 0 ≤ sacks) (h2 : sacks ≤ 9) (h3 : 0 ≤ pairs) (h4 : pairs ≤ 8) : HpOk 23 [.int .i64 sacks, .int .i64 pairs] u (ldA (madeL u sacks pairs)) (madeH u sacks pairs) := by
  have g1 := modV_bound u 80
  have g2 := modV_bound (hpS u) 6
  have g3 := modV_bound (hpS (hpS u)) sacks
  have k1 := mdK_ok (hpS_ok (hpS_ok (hpS_ok o)))
  refine ⟨rfl, ?_⟩
  refine ACall.bodyN (T := tab) (res := [.cell 6 65]) tab_ok [] Try.func23 rfl (by kernel_rfl) Try.ntmps23 rfl (by simp only [List.length_cons, List.length_nil]; decide) ⟨rfl, rfl⟩ ?_; conv => whnf
  repeat' first | ((first | (with_reducible refine XInt.i64 (by omega) (by omega) ?_) | (refine XCall.hp (j := 0) (from_c u 20 100 o (by omega) (by omega) (by omega) (by omega)) rfl rfl ?_) | (refine XCall.hp (j := 0) (upto_c (hpS u) 6 (hpS_ok o) (by omega) (by omega)) rfl rfl ?_) | (refine XCall.hp (j := 0) (upto_c (hpS (hpS u)) sacks (hpS_ok (hpS_ok o)) (by omega) (by omega)) rfl rfl ?_)); conv => whnf) | fail
  refine Walk.nilcell 2 2 74 rfl rfl ?_
  refine Walk.nilcell 2 3 76 rfl rfl ?_
  refine Walk.nilcell 2 4 76 rfl rfl ?_
  have hm : ((modV (hpS (hpS u)) sacks).toNat : Int) = modV (hpS (hpS u)) sacks := by omega
  refine Walk.loop tab_ok [] (fun k : Nat => k ≤ (modV (hpS (hpS u)) sacks).toNat) (fun k => [(0, .ptr 0 0), (2, .int .i64 pairs), (6, .ptr 1 0), (7, .ptr 2 0), (19, .int .i64 (modV (hpS (hpS u)) sacks)), (20, natA k)])
    (fun k => [hpC (mdK (hpS (hpS (hpS u))) k).2, .cells [.int .i64 0, .int .i64 0, .sl true [], .sl true [], .sl true []],
      .cells [.int .i64 (20 + modV u (100 - 20)), .int .i64 (modV (hpS u) 6 * 10), .gr 3 (mdK (hpS (hpS (hpS u))) k).1.length, .gr 4 0, .gr 5 0], .grow 74 (mdK (hpS (hpS (hpS u))) k).1.isEmpty ((mdK (hpS (hpS (hpS u))) k).1.map skA), .grow 76 true [], .grow 76 true []])
    (fun k => (modV (hpS (hpS u)) sacks).toNat - k) 0 (by omega) rfl ⟨rfl, rfl, rfl, rfl, rfl, rfl, trivial⟩ ?_
  intro k hk
  have k2 := k1 k
  have hnx : mdK (hpS (hpS (hpS u))) (k + 1) = ((mdK (hpS (hpS (hpS u))) k).1 ++ [⟨1 + modV (mdK (hpS (hpS (hpS u))) k).2 59, modV (hpS (mdK (hpS (hpS (hpS u))) k).2) 5⟩], hpS (hpS (mdK (hpS (hpS (hpS u))) k).2)) := rfl
  have hfin : k = (modV (hpS (hpS u)) sacks).toNat → mdSk u sacks = mdK (hpS (hpS (hpS u))) k := fun h => by rw [h]; rfl
  generalize mdK (hpS (hpS (hpS u))) k = q at k2 hnx hfin
  obtain ⟨ss, v⟩ := q
  obtain ⟨vo, vl⟩ := k2
  dsimp only at vo vl hnx hfin
  have b1 := modV_bound v 59
  have b2 := modV_bound (hpS v) 5
  conv => whnf
  repeat' first | ((with_reducible apply XBr.dec) <;> (intro h; first | (exfalso; omega) | ((try simp only [List.length_map] at h); first | (exfalso; omega) | (conv => whnf)))) | fail
  · apply Walk.drawX tab_ok mixed_ok [] [3, 5, 8, 10] (hsV _ [id, fun H => H.set 0 (hpC (hpS v)), fun H => H.set 0 (hpC (hpS (hpS v))), fun H => (H.set 0 (hpC (hpS (hpS v)))).set 3 (.grow 74 (ss.isEmpty && false) (ss.map skA ++ [skA (Sk.mk (1 + modV v (60 - 1)) (modV (hpS v) 5))])),
      fun H => ((H.set 0 (hpC (hpS (hpS v)))).set 3 (.grow 74 (ss.isEmpty && false) (ss.map skA ++ [skA (Sk.mk (1 + modV v (60 - 1)) (modV (hpS v) 5))]))).set 2 (.cells [.int .i64 (20 + modV u (100 - 20)), .int .i64 (modV (hpS u) 6 * 10), .gr 3 (ss.length + 1), .gr 4 0, .gr 5 0])]) [_, _, _, _, _, _, _, _, _, _, _] (by kernel_rfl) rfl
    · skip
      repeat' first | ((with_reducible refine XHold.mk ?_ ?_); (first | omega | rfl | decide | exact ⟨rfl, by decide, rfl⟩ | exact wideI _ | exact widePr _ | exact wideSk _ | (unfold Room; constructor <;> ((try simp) <;> omega)) | exact ⟨rfl, by simp only [List.length_map], by unfold Room; constructor <;> ((try simp) <;> omega)⟩ | exact ⟨by omega, by omega, by unfold Room; constructor <;> ((try simp) <;> omega)⟩); conv => whnf) | (with_reducible apply XAnd.mk) | ((first | (with_reducible apply Chk.go) | (with_reducible apply ChkA.go)); conv => whnf) | (exact XSame.mk rfl rfl) | (with_reducible exact trivial) | ((first | (refine XCall.hp (j := 0) (from_c v 1 60 vo (by omega) (by omega) (by omega) (by omega)) rfl rfl ?_) | (refine XCall.hp (j := 0) (upto_c (hpS v) 5 (hpS_ok vo) (by omega) (by omega)) rfl rfl ?_)); conv => whnf) | fail
    · skip
      repeat' first | ((with_reducible refine XHold.mk ?_ ?_); (first | omega | rfl | decide | exact ⟨rfl, by decide, rfl⟩ | exact wideI _ | exact widePr _ | exact wideSk _ | (unfold Room; constructor <;> ((try simp) <;> omega)) | exact ⟨rfl, by simp only [List.length_map], by unfold Room; constructor <;> ((try simp) <;> omega)⟩ | exact ⟨by omega, by omega, by unfold Room; constructor <;> ((try simp) <;> omega)⟩); conv => whnf) | (with_reducible apply XAnd.mk) | ((first | (with_reducible apply Chk.go) | (with_reducible apply ChkF.go) | (with_reducible apply ChkB.go)); conv => whnf) | (exact XSame.mk rfl rfl) | (with_reducible exact trivial) | fail
    · conv => whnf
      repeat' first | ((with_reducible refine XInt.i64 (by omega) (by omega) ?_); conv => whnf) | fail
      refine XAgain.go (k + 1) (by omega) (by omega) ?_ ⟨rfl, rfl, rfl, rfl, rfl, rfl, trivial⟩
      rw [hnx]; simp only [List.length_append, List.map_append, isEmpty_app]; rfl
  · have hq := hfin (by omega)
    have hL : madeL u sacks pairs = ⟨20 + modV u 80, modV (hpS u) 6 * 10, ss.isEmpty, ss, (mdPr u sacks pairs).ap.isEmpty, (mdPr u sacks pairs).ap, (mdPr u sacks pairs).wt.isEmpty, (mdPr u sacks pairs).wt⟩ := by unfold madeL; rw [hq]
    have hP : mdPr u sacks pairs = if 1 < ss.length then prK ss.length (hpS v) (modV v pairs).toNat else ⟨[], [], v⟩ := by unfold mdPr; rw [hq]
    unfold madeH
    rw [hL]
    generalize mdPr u sacks pairs = pq at hP
    have b3 := modV_bound v pairs
    have hmp : ((modV v pairs).toNat : Int) = modV v pairs := by omega
    repeat' first | ((with_reducible apply XBr.dec) <;> (intro h; first | (exfalso; omega) | ((try simp only [List.length_map] at h); first | (exfalso; omega) | (conv => whnf)))) | ((first | (refine XCall.hp (j := 0) (upto_c v pairs vo (by omega) (by omega)) rfl rfl ?_) | (refine XHold.mk (List.length_map _) ?_)); conv => whnf) | fail
    · rw [if_pos (by omega)] at hP
      have hn1 : 1 < (ss.length : Int) := by omega
      have pk := prK_ok (n := ss.length) (hpS_ok vo)
      refine Walk.loopG tab_ok [] (fun j : Nat => j ≤ (modV v pairs).toNat) (fun j => [(0, .ptr 0 0), (6, .ptr 1 0), (7, .ptr 2 0), (8, .int .i64 ss.length), (40, .int .i64 (modV v pairs)), (41, natA j)])
        (fun j => [hpC (prK ss.length (hpS v) j).u, .cells [.int .i64 0, .int .i64 0, .sl true [], .sl true [], .sl true []],
          .cells [.int .i64 (20 + modV u (100 - 20)), .int .i64 (modV (hpS u) 6 * 10), .gr 3 ss.length, .gr 4 (prK ss.length (hpS v) j).ap.length, .gr 5 (prK ss.length (hpS v) j).wt.length], .grow 74 ss.isEmpty (ss.map skA),
          .grow 76 (prK ss.length (hpS v) j).ap.isEmpty ((prK ss.length (hpS v) j).ap.map prA), .grow 76 (prK ss.length (hpS v) j).wt.isEmpty ((prK ss.length (hpS v) j).wt.map prA)])
        (fun j => (modV v pairs).toNat - j) 0 (by omega) rfl ⟨rfl, rfl, rfl, rfl, rfl, rfl, trivial⟩ ?_ ?_ ?_
      · intro j _
        constructor
        · intro x hx; simp only [List.mem_cons, List.not_mem_nil, or_false] at hx
          rcases hx with rfl | rfl | rfl | rfl | rfl | rfl <;> first | exact hpC_low _ | exact lowSk _ | exact lowPr _ | rfl
        · intro p hp; simp only [List.mem_cons, List.not_mem_nil, or_false] at hp; rcases hp with rfl | rfl | rfl | rfl | rfl | rfl <;> rfl
      · intro j _; exact Nat.le_refl _
      intro j hj
      have pj := pk j
      have hnxt : prK ss.length (hpS v) (j + 1) = prS ss.length (prK ss.length (hpS v) j) := rfl
      have hfin2 : j = (modV v pairs).toNat → pq = prK ss.length (hpS v) j := fun h => by rw [hP, h]
      generalize prK ss.length (hpS v) j = st at pj hnxt hfin2
      obtain ⟨ap, wt, x⟩ := st
      dsimp only at pj hnxt hfin2 ⊢
      have xo := pj.1
      have ab := prAB x hn1
      unfold prB1 prA1 at ab
      have c1 := modV_bound x (ss.length - 1)
      have c2 := modV_bound (hpS x) (ss.length - 1 - 1)
      have hss : ss.length ≤ 9 := by omega
      conv => whnf
      repeat' first | ((with_reducible apply XBr.dec) <;> (intro h; first | (exfalso; omega) | ((try simp only [List.length_map] at h); first | (exfalso; omega) | (conv => whnf)))) | ((with_reducible apply XBr.beq) <;> (intro h; first | (exfalso; omega) | (conv => whnf))) | ((with_reducible refine XInt.i64 (by omega) (by omega) ?_); conv => whnf) | ((with_reducible refine XHold.mk ?_ ?_); (first | omega | rfl | decide | exact ⟨rfl, by decide, rfl⟩ | exact wideI _ | exact widePr _ | exact wideSk _ | (unfold Room; constructor <;> ((try simp) <;> omega)) | exact ⟨rfl, by simp only [List.length_map], by unfold Room; constructor <;> ((try simp) <;> omega)⟩ | exact ⟨by omega, by omega, by unfold Room; constructor <;> ((try simp) <;> omega)⟩); conv => whnf) | ((first | (refine XCall.hp (j := 0) (upto_c x (ss.length - 1) xo (by omega) (by omega)) rfl rfl ?_) | (refine XCall.hp (j := 0) (from_c (hpS x) 1 (ss.length - 1) (hpS_ok xo) (by omega) (by omega) (by omega) (by omega)) rfl rfl ?_) | (refine XCall.hp (j := 0) (once_c (hpS (hpS x)) 2 (hpS_ok (hpS_ok xo)) (by omega) (by omega)) rfl rfl ?_)); conv => whnf) | fail
      · refine XAgainG.go (j + 1) [.cells [.int .i64 (prA1 ss.length x), .int .i64 (prB1 ss.length x)]] (by omega) (by omega) ?_ ⟨rfl, rfl, rfl, rfl, rfl, rfl, trivial⟩
        rw [hnxt]; unfold prS; rw [if_pos (by simpa using h)]; simp only [List.length_append, List.map_append, isEmpty_app]; rfl
      · refine XAgainG.go (j + 1) [.cells [.int .i64 (prA1 ss.length x), .int .i64 (prB1 ss.length x)]] (by omega) (by omega) ?_ ⟨rfl, rfl, rfl, rfl, rfl, rfl, trivial⟩
        rw [hnxt]; unfold prS; rw [if_neg (by simpa using h)]; simp only [List.length_append, List.map_append, isEmpty_app]; rfl
      · rw [hfin2 (by omega)]
        exact made_end _ _ _ _ _ _ rfl rfl rfl
    · rw [if_neg (by omega)] at hP
      subst hP
      exact made_end (20 + modV u 80) (modV (hpS u) 6 * 10) ss [] [] v rfl rfl rfl
def hp0 (nl : Bool) (bs : List Int) : Hp := ⟨nl, bs, 0, 0⟩
theorem hp0_ok {nl : Bool} {bs : List Int} (h : bs.length < 9223372036854775808) : (hp0 nl bs).Ok := ⟨h, .inr rfl⟩
def Fle (a b : Int × Int) : Prop := a.1 * b.2 ≤ b.1 * a.2
theorem Fle.refl (a : Int × Int) : Fle a a := Int.le_refl _
theorem Fle.trans {a b c : Int × Int} (h1 : Fle a b) (h2 : Fle b c) (ha : 0 ≤ a.2) (hb : 0 < b.2) (hc : 0 ≤ c.2) : Fle a c := by
  unfold Fle at *
  have e1 : a.1 * b.2 * c.2 ≤ b.1 * a.2 * c.2 := Int.mul_le_mul_of_nonneg_right h1 hc
  have e2 : b.1 * c.2 * a.2 ≤ c.1 * b.2 * a.2 := Int.mul_le_mul_of_nonneg_right h2 ha
  have e3 : a.1 * c.2 * b.2 ≤ c.1 * a.2 * b.2 := by
    calc a.1 * c.2 * b.2 = a.1 * b.2 * c.2 := by rw [Int.mul_right_comm]
      _ ≤ b.1 * a.2 * c.2 := e1
      _ = b.1 * c.2 * a.2 := by rw [Int.mul_right_comm]
      _ ≤ c.1 * b.2 * a.2 := e2
      _ = c.1 * a.2 * b.2 := by rw [Int.mul_right_comm]
  exact Int.le_of_mul_le_mul_right e3 hb
def nxQ (parts s : List Int) (i : Nat) : Int × Int := (parts.getD i 0, 2 * s.getD i 0 + 1)
def lsQ (parts s : List Int) (i : Nat) : Int × Int := (parts.getD i 0, 2 * s.getD i 0 - 1)
def Web (parts s : List Int) : Prop := ∀ i j, i < 6 → j < 6 → 0 < s.getD i 0 → Fle (nxQ parts s j) (lsQ parts s i)

theorem Web.none {parts s : List Int} (h : Web parts s) (hs : ∀ i, 0 ≤ s.getD i 0) (hp : ∀ i, 0 ≤ parts.getD i 0) (hg : ∃ j, j < 6 ∧ 0 < parts.getD j 0) {i : Nat} (hi : i < 6) (h0 : parts.getD i 0 = 0) : s.getD i 0 = 0 := by
  obtain ⟨j, hj, hw⟩ := hg
  rcases Int.lt_or_le 0 (s.getD i 0) with h1 | h1
  · exfalso
    have h2 := h i j hi hj h1
    unfold Fle nxQ lsQ at h2; simp only at h2
    rw [h0, Int.zero_mul] at h2
    have := Int.mul_pos hw (show 0 < 2 * s.getD i 0 - 1 by omega)
    omega
  · have := hs i; omega
theorem bit_ext {a b : Nat} (h : ∀ i, a.testBit i = b.testBit i) : a = b := Nat.eq_of_testBit_eq h
theorem Sub.refl (a : Nat) : Sub a a := fun _ h => h
theorem Sub.trans {a b c : Nat} (h : Sub a b) (k : Sub b c) : Sub a c := fun i x => k i (h i x)
theorem sub_half {a m : Nat} (h : Sub a m) : Sub (a / 2) (m / 2) := fun i x => by
  have := h (i + 1) (by rw [Nat.testBit_succ]; exact x)
  rwa [Nat.testBit_succ] at this
theorem sub_odd {a m : Nat} (h : Sub a m) : a % 2 ≤ m % 2 := by
  have := h 0
  simp only [Nat.testBit_zero, decide_eq_true_eq] at this
  omega
theorem and_half (a b : Nat) : (a &&& b) = 2 * ((a / 2) &&& (b / 2)) + ((a % 2) * (b % 2)) := by
  have h1 : (a &&& b) / 2 = (a / 2) &&& (b / 2) := Nat.and_div_two
  have h2 : (a &&& b) % 2 = (a % 2) * (b % 2) := by
    have e : (a &&& b).testBit 0 = (a.testBit 0 && b.testBit 0) := Nat.testBit_and ..
    simp only [Nat.testBit_zero] at e
    rcases Nat.mod_two_eq_zero_or_one a with ha | ha <;> rcases Nat.mod_two_eq_zero_or_one b with hb | hb <;> rcases Nat.mod_two_eq_zero_or_one (a &&& b) with hc | hc <;> simp [ha, hb, hc] at e ⊢
  omega
theorem sub_and {a m : Nat} (h : Sub a m) : a &&& m = a := bit_ext fun i => by
  rw [Nat.testBit_and]; cases e : a.testBit i
  · rfl
  · rw [h i e]; rfl
theorem sub_pred : ∀ (rest r m : Nat), Sub rest m → Sub r m → r < rest → r ≤ (rest - 1) &&& m := by
  intro rest
  induction rest using Nat.strongRecOn with
  | ind rest ih =>
    intro r m h1 h2 h3
    rw [and_half]
    have o2 := sub_odd h2
    rcases Nat.mod_two_eq_zero_or_one rest with hx | hx
    · have e1 : (rest - 1) / 2 = rest / 2 - 1 := by omega
      have e2 : (rest - 1) % 2 = 1 := by omega
      have := ih (rest / 2) (by omega) (r / 2) (m / 2) (sub_half h1) (sub_half h2) (by omega)
      rw [e1, e2]; omega
    · have e1 : (rest - 1) / 2 = rest / 2 := by omega
      have e2 : (rest - 1) % 2 = 0 := by omega
      rw [e1, e2, sub_and (sub_half h1)]; omega
theorem diff_and (a s l : Nat) : diff (a &&& s) l = a &&& diff s l := bit_ext fun i => by
  rw [diff_bit, Nat.testBit_and, Nat.testBit_and, diff_bit]; cases a.testBit i <;> cases s.testBit i <;> rfl
theorem sub_diff (s c : Nat) : Sub (diff s c) s := fun i h => by rw [diff_bit, Bool.and_eq_true] at h; exact h.1
theorem cartsF_all (d : Dk) (set : Nat) : ∀ (f rest : Nat), rest < f → Sub rest (diff set (lowb set)) → ∀ r, Sub r (diff set (lowb set)) → r ≤ rest → rightB d (r ||| lowb set) = true → r ||| lowb set ∈ cartsF d set f rest
  | 0, _, h, _, _, _, _, _ => absurd h (Nat.not_lt_zero _)
  | f + 1, rest, hf, hr, r, h1, h2, h3 => by
    rw [cartsF_succ, List.mem_append]
    by_cases he : r = rest
    · subst he; left; rw [if_pos h3]; exact List.mem_singleton.2 rfl
    · right
      rw [if_neg (by omega)]
      have e := sub_pred rest r _ hr h1 (by omega)
      rw [diff_and]
      have hle : (rest - 1) &&& diff set (lowb set) ≤ rest - 1 := Nat.and_le_left
      exact cartsF_all d set f _ (by omega) (fun i h => by rw [Nat.testBit_and, Bool.and_eq_true] at h; exact h.2) r h1 e h3
theorem lowb_one_all : ∀ s : Fin 512, s.val ≠ 0 → ∃ i : Fin 9, lowb s.val = 2 ^ i.val := by decide +kernel
theorem lowb_one {s : Nat} (h0 : s ≠ 0) (h : s < 512) : ∃ i, i < 9 ∧ lowb s = 2 ^ i := by
  obtain ⟨i, hi⟩ := lowb_one_all ⟨s, h⟩ h0
  exact ⟨i.val, i.isLt, hi⟩
theorem sub_pow {i c : Nat} : Sub (2 ^ i) c ↔ c.testBit i = true := by
  constructor
  · intro h; exact h i (by rw [Nat.testBit_two_pow_self])
  · intro h j hj; rw [Nat.testBit_two_pow, decide_eq_true_eq] at hj; subst hj; exact h
theorem carts_iff (d : Dk) {set c : Nat} (h9 : set < 512) : c ∈ cartsL d set ↔ Sub c set ∧ Sub (lowb set) c ∧ rightB d c = true := by
  refine ⟨carts_sub d, fun ⟨h1, h2, h3⟩ => ?_⟩
  have e : diff c (lowb set) ||| lowb set = c := bit_ext fun i => by
    rw [Nat.testBit_or, diff_bit]
    cases hc : c.testBit i
    · cases hl : (lowb set).testBit i
      · rfl
      · rw [h2 i hl] at hc; cases hc
    · cases hl : (lowb set).testBit i <;> rfl
  have hs : Sub (diff c (lowb set)) (diff set (lowb set)) := fun i h => by
    rw [diff_bit, Bool.and_eq_true] at h ⊢; exact ⟨h1 i h.1, h.2⟩
  have := cartsF_all d set 512 (diff set (lowb set)) (by have := diff_le set (lowb set); omega) (Sub.refl _) (diff c (lowb set)) hs hs.le (by rw [e]; exact h3)
  rw [e] at this; exact this

inductive Pk (R : Nat → Bool) : Nat → Nat → Prop
  | nil : Pk R 0 0
  | cons {n set : Nat} (c : Nat) (hr : R c = true) (hs : Sub c set) (h0 : c ≠ 0) (t : Pk R n (diff set c)) : Pk R (n + 1) set
theorem diff_diff (s a b : Nat) : diff (diff s a) b = diff (diff s b) a := bit_ext fun i => by
  simp only [diff_bit]; cases s.testBit i <;> cases a.testBit i <;> cases b.testBit i <;> rfl
theorem ne_zero_bit {c i : Nat} (h : c.testBit i = true) : c ≠ 0 := fun e => by rw [e, Nat.zero_testBit] at h; cases h
theorem Pk.first {R : Nat → Bool} {n set i : Nat} (h : Pk R n set) (hi : set.testBit i = true) : ∃ c k, n = k + 1 ∧ R c = true ∧ Sub c set ∧ c.testBit i = true ∧ Pk R k (diff set c) := by
  induction h with
  | nil => rw [Nat.zero_testBit] at hi; cases hi
  | @cons n set c hr hs h0 t ih =>
    cases hc : c.testBit i
    · obtain ⟨c', k, h1, h2, h3, h4, h5⟩ := ih (by rw [diff_bit, hi, hc]; rfl)
      subst h1
      refine ⟨c', k + 1, rfl, h2, h3.trans (sub_diff _ _), h4, .cons c hr (fun j hj => ?_) h0 (by rw [diff_diff]; exact h5)⟩
      rw [diff_bit, hs j hj]
      cases hc' : c'.testBit j
      · rfl
      · have := h3 j hc'; rw [diff_bit, hj, Bool.not_true, Bool.and_false] at this; cases this
    · exact ⟨c, n, rfl, hr, hs, hc, t⟩
theorem Pk.zero {R : Nat → Bool} {n : Nat} (h : Pk R n 0) : n = 0 := by
  cases h with
  | nil => rfl
  | cons c hr hs h0 t => exact absurd (Nat.le_zero.1 hs.le) h0
theorem Pk.none {R : Nat → Bool} {set : Nat} (h : Pk R 0 set) : set = 0 := by cases h; rfl
structure IsOpt (R : Nat → Bool) (set v : Nat) : Prop where
  le : v ≤ 10
  lo : ∀ n, Pk R n set → v ≤ n
  is : v < 10 → Pk R v set
def MemOk (R : Nat → Bool) (m : List (Int × Nat)) : Prop := ∀ (s : Nat) v, look (s : Int) m = some v → IsOpt R s v
theorem ofM_opt (d : Dk) : ∀ (f set : Nat) (m : List (Int × Nat)), set < f → set < 512 → MOk m → MemOk (rightB d) m → IsOpt (rightB d) set (ofM d f set m).1 ∧ MemOk (rightB d) (ofM d f set m).2
  | 0, _, _, h, _, _, _ => absurd h (Nat.not_lt_zero _)
  | f + 1, set, m, hf, h9, mo, me => by
    rw [ofM_succ]
    cases hl : look (set : Int) m with
    | some v => exact ⟨me set v hl, me⟩
    | none =>
      have h0 : set ≠ 0 := fun e => by subst e; rw [show ((0 : Nat) : Int) = 0 from rfl, mo.z] at hl; cases hl
      obtain ⟨i, _, hi⟩ := lowb_one h0 h9
      have hbit : set.testBit i = true := sub_pow.1 (hi ▸ lowb_sub set)
      have fold : ∀ (cs : List Nat) (p : Nat × List (Int × Nat)), (∀ c ∈ cs, c ∈ cartsL d set) → p.1 ≤ 10 → (p.1 < 10 → Pk (rightB d) p.1 set) → MOk p.2 → MemOk (rightB d) p.2 →
          ((cs.foldl (ofStep d f set) p).1 ≤ 10 ∧ ((cs.foldl (ofStep d f set) p).1 < 10 → Pk (rightB d) (cs.foldl (ofStep d f set) p).1 set) ∧ (cs.foldl (ofStep d f set) p).1 ≤ p.1 ∧ (∀ c ∈ cs, ∀ n, Pk (rightB d) n (diff set c) → (cs.foldl (ofStep d f set) p).1 ≤ n + 1)) ∧
          MemOk (rightB d) (cs.foldl (ofStep d f set) p).2 := by
        intro cs
        induction cs with
        | nil => intro p _ h1 h2 h3 h4; exact ⟨⟨h1, h2, Nat.le_refl _, by simp⟩, h4⟩
        | cons c cs ih =>
          intro p hc h1 h2 h3 h4
          rw [List.foldl_cons]
          have hm := hc c List.mem_cons_self
          obtain ⟨k1, k2, k3⟩ := carts_sub d hm
          obtain ⟨hlt, hc9⟩ := carts_lt d (by omega) h9 hm
          obtain ⟨g1, g2⟩ := ofM_opt d f (diff set c) p.2 (by omega) (by omega) h3 h4
          obtain ⟨g3, g4⟩ := ofM_ok d f (diff set c) p.2 h3
          obtain ⟨⟨a1, a2, a3, a4⟩, a5⟩ := ih (ofStep d f set p c) (fun x hx => hc x (List.mem_cons_of_mem _ hx)) (by simp only [ofStep]; omega) (fun hlt10 => by
            simp only [ofStep] at hlt10 ⊢
            rcases Nat.le_total p.1 ((ofM d f (diff set c) p.2).1 + 1) with hle | hle
            · rw [Nat.min_eq_left hle] at hlt10 ⊢; exact h2 hlt10
            · rw [Nat.min_eq_right hle] at hlt10 ⊢
              exact .cons c k3 k1 (ne_zero_bit (k2 i (by rw [hi, Nat.testBit_two_pow_self]))) (g1.is (by omega))) g4 g2
          refine ⟨⟨a1, a2, ?_, ?_⟩, a5⟩
          · exact Nat.le_trans a3 (Nat.min_le_left _ _)
          · intro x hx n hn
            rcases List.mem_cons.1 hx with rfl | hx
            · have := g1.lo n hn; have h5 := Nat.le_trans a3 (Nat.min_le_right _ _); omega
            · exact a4 x hx n hn
      obtain ⟨⟨a1, a2, _, a4⟩, a5⟩ := fold (cartsL d set) (10, m) (fun _ h => h) (Nat.le_refl 10) (fun h => absurd h (by simp)) mo me
      have hopt : IsOpt (rightB d) set ((cartsL d set).foldl (ofStep d f set) (10, m)).1 := ⟨a1, fun n hn => by
        obtain ⟨c, k, rfl, h1, h2, h3, h4⟩ := hn.first hbit
        exact a4 c ((carts_iff d h9).2 ⟨h2, hi ▸ sub_pow.2 h3, h1⟩) k h4, a2⟩
      refine ⟨hopt, fun s v e => ?_⟩
      rw [look_put] at e
      split at e
      · rename_i he; cases e; have : s = set := by omega
        subst this; exact hopt
      · exact a5 s v e
theorem memOk_zero (R : Nat → Bool) : MemOk R [(0, 0)] := fun s v h => by
  simp only [look] at h
  split at h
  · rename_i e; cases h; have : s = 0 := by omega
    subst this; exact ⟨by omega, fun _ _ => Nat.zero_le _, fun _ => .nil⟩
  · cases h
theorem many_opt (d : Dk) (h : d.l.sacks.length ≤ 9) : IsOpt (rightB d) (allD d) (manyD d) := by
  have hall : allD d < 512 := by have := pow9 h; unfold allD; omega
  exact (ofM_opt d 512 (allD d) _ hall hall MOk.zero (memOk_zero _)).1
theorem bitsF_iff : ∀ (f i s : Nat), s < 2 ^ f → ∀ x : Int, x ∈ bitsF f i s ↔ ∃ j : Nat, x = ((i + j : Nat) : Int) ∧ s.testBit j = true
  | 0, i, s, h, x => by
    have : s = 0 := by simpa using h
    subst this
    simp [bitsF]
  | f + 1, i, s, h, x => by
    have ih := bitsF_iff f (i + 1) (s / 2) (by rw [Nat.pow_succ] at h; omega) x
    have hz : (∃ j : Nat, x = ((i + j : Nat) : Int) ∧ s.testBit j = true) ↔ (x = (i : Int) ∧ s % 2 = 1) ∨ ∃ j : Nat, x = ((i + 1 + j : Nat) : Int) ∧ (s / 2).testBit j = true := by
      constructor
      · rintro ⟨j, h1, h2⟩
        rcases j with _ | j
        · left; rw [Nat.testBit_zero, decide_eq_true_eq] at h2; exact ⟨by simpa using h1, h2⟩
        · right; rw [Nat.testBit_succ] at h2; exact ⟨j, by rw [h1]; congr 1; omega, h2⟩
      · rintro (⟨h1, h2⟩ | ⟨j, h1, h2⟩)
        · exact ⟨0, by simpa using h1, by rw [Nat.testBit_zero, decide_eq_true_eq]; exact h2⟩
        · exact ⟨j + 1, by rw [h1]; congr 1; omega, by rw [Nat.testBit_succ]; exact h2⟩
    rw [hz, ← ih]
    have e : bitsF (f + 1) i s = if s = 0 then [] else if s % 2 = 1 then (i : Int) :: bitsF f (i + 1) (s / 2) else bitsF f (i + 1) (s / 2) := rfl
    rw [e]
    split
    · rename_i h0; subst h0; rw [Nat.zero_div, bitsF_zero]; simp
    · split
      · rename_i h1; rw [List.mem_cons]; simp [h1]
      · rename_i h1; simp [h1]
theorem bits_iff {s : Nat} (h : s < 512) (x : Int) : x ∈ bits s ↔ ∃ j : Nat, x = (j : Int) ∧ s.testBit j = true := by
  have := bitsF_iff 62 0 s (by omega) x
  unfold bits
  simpa using this
theorem inSet_bit (set : Nat) (p : Int) : inSet set p = set.testBit p.toNat := by
  unfold inSet; rw [Nat.testBit_eq_decide_div_mod_eq]
  rcases Nat.mod_two_eq_zero_or_one (set / 2 ^ p.toNat) with h | h <;> rw [h] <;> rfl
theorem diff_zero {a b : Nat} : diff a b = 0 ↔ Sub a b := by
  constructor
  · intro h i hi
    cases hb : b.testBit i
    · have := diff_bit a b i; rw [h, hi, hb, Nat.zero_testBit] at this; cases this
    · rfl
  · intro h
    apply bit_ext; intro i
    rw [diff_bit, Nat.zero_testBit]
    cases ha : a.testBit i
    · rfl
    · rw [h i ha]; rfl
def allP (b : List Nat) (p : Int × Int) : Nat := b.getD p.1.toNat 0 ||| b.getD p.2.toNat 0
theorem joinStep_get (b : List Nat) (p : Int × Int) {i : Nat} (hi : i < b.length) : (joinStep b p).getD i 0 = if (allP b p).testBit i = true then b.getD i 0 ||| allP b p else b.getD i 0 := by
  have e : (allP b p).testBit i = decide ((b.getD p.1.toNat 0 ||| b.getD p.2.toNat 0) / 2 ^ i % 2 = 1) := Nat.testBit_eq_decide_div_mod_eq
  rw [e]
  unfold joinStep allP
  simp only [List.getD_eq_getElem?_getD, List.getElem?_mapIdx, List.getElem?_eq_getElem hi, Option.map_some, Option.getD_some, decide_eq_true_eq]
theorem joinStep_none (b : List Nat) (p : Int × Int) {i : Nat} (hi : ¬ i < b.length) : (joinStep b p).getD i 0 = 0 := by
  rw [List.getD_eq_getElem?_getD, List.getElem?_eq_none (by rw [joinStep_len]; omega)]; rfl
theorem joinStep_sub (b : List Nat) (p : Int × Int) (i : Nat) : Sub (b.getD i 0) ((joinStep b p).getD i 0) := by
  by_cases hi : i < b.length
  · rw [joinStep_get b p hi]; split
    · intro j hj; rw [Nat.testBit_or, hj]; rfl
    · exact Sub.refl _
  · rw [List.getD_eq_getElem?_getD, List.getElem?_eq_none (by omega)]; exact Sub.zero _
theorem foldl_sub : ∀ (ps : List (Int × Int)) (b : List Nat) (i : Nat), Sub (b.getD i 0) ((ps.foldl joinStep b).getD i 0)
  | [], _, _ => Sub.refl _
  | p :: ps, b, i => by rw [List.foldl_cons]; exact (joinStep_sub b p i).trans (foldl_sub ps _ i)
theorem closeF_sub (l : Ld) : ∀ (n : Nat) (b : List Nat) (i : Nat), Sub (b.getD i 0) ((closeF l n b).getD i 0)
  | 0, _, _ => Sub.refl _
  | n + 1, b, i => by
    show Sub _ ((if joinR l b = b then b else closeF l n (joinR l b)).getD i 0)
    split
    · exact Sub.refl _
    · exact (foldl_sub _ b i).trans (closeF_sub l n _ i)
theorem closeF_fix (l : Ld) : ∀ (n : Nat) (b : List Nat), msr b < n → (∀ i, b.getD i 0 < 512) → joinR l (closeF l n b) = closeF l n b
  | 0, _, h, _ => absurd h (Nat.not_lt_zero _)
  | n + 1, b, h, hs => by
    show joinR l (if joinR l b = b then b else closeF l n (joinR l b)) = if joinR l b = b then b else closeF l n (joinR l b)
    split
    · assumption
    · rename_i hne
      have := msr_lt b (joinR l b) (joinR_len l b).symm (joinR_ge l b) (joinR_small l b hs) (Ne.symm hne)
      exact closeF_fix l n _ (by omega) (joinR_small l b hs)
theorem foldl_fix : ∀ (ps : List (Int × Int)) (b : List Nat), ps.foldl joinStep b = b → ∀ p ∈ ps, joinStep b p = b
  | [], _, _, _, h => by simp at h
  | q :: ps, b, h, p, hp => by
    rw [List.foldl_cons] at h
    have hq : joinStep b q = b := by
      refine eq_of_getD (d := 0) (joinStep_len b q) fun j _ => ?_
      have h1 := joinStep_ge b q j
      have h2 := foldl_ge ps (joinStep b q) j
      rw [h] at h2; omega
    rcases List.mem_cons.1 hp with rfl | hp
    · exact hq
    · rw [hq] at h; exact foldl_fix ps b h p hp
def Cl (l : Ld) (c : Nat) : Prop := ∀ p ∈ l.wth, c.testBit p.1.toNat = c.testBit p.2.toNat
def Inv (c : Nat) (b : List Nat) : Prop := ∀ i, (c.testBit i = true → Sub (b.getD i 0) c) ∧ (c.testBit i = false → ∀ j, (b.getD i 0).testBit j = true → c.testBit j = false)
theorem Inv.step {c : Nat} {b : List Nat} {p : Int × Int} (h : Inv c b) (hp : c.testBit p.1.toNat = c.testBit p.2.toNat) : Inv c (joinStep b p) := by
  intro i
  by_cases hi : i < b.length
  · rw [joinStep_get b p hi]
    split
    · rename_i ha
      unfold allP at ha ⊢
      cases h1 : c.testBit p.1.toNat
      · have k1 := (h p.1.toNat).2 h1
        have k2 := (h p.2.toNat).2 (hp ▸ h1)
        have hci : c.testBit i = false := by
          rw [Nat.testBit_or, Bool.or_eq_true] at ha
          exact ha.elim (k1 i) (k2 i)
        refine ⟨fun e => (by rw [hci] at e; cases e), fun _ j hj => ?_⟩
        rw [Nat.testBit_or, Nat.testBit_or, Bool.or_eq_true, Bool.or_eq_true] at hj
        rcases hj with hj | hj | hj
        · exact (h i).2 hci j hj
        · exact k1 j hj
        · exact k2 j hj
      · have k1 := (h p.1.toNat).1 h1
        have k2 := (h p.2.toNat).1 (hp ▸ h1)
        have hci : c.testBit i = true := by
          rw [Nat.testBit_or, Bool.or_eq_true] at ha
          exact ha.elim (k1 i) (k2 i)
        refine ⟨fun _ j hj => ?_, fun e => (by rw [hci] at e; cases e)⟩
        rw [Nat.testBit_or, Nat.testBit_or, Bool.or_eq_true, Bool.or_eq_true] at hj
        rcases hj with hj | hj | hj
        · exact (h i).1 hci j hj
        · exact k1 j hj
        · exact k2 j hj
    · exact h i
  · rw [joinStep_none b p hi]
    exact ⟨fun _ => Sub.zero _, fun _ j hj => by rw [Nat.zero_testBit] at hj; cases hj⟩
theorem Inv.fold {c : Nat} : ∀ (ps : List (Int × Int)) (b : List Nat), (∀ p ∈ ps, c.testBit p.1.toNat = c.testBit p.2.toNat) → Inv c b → Inv c (ps.foldl joinStep b)
  | [], _, _, h => h
  | p :: ps, b, hp, h => by rw [List.foldl_cons]; exact Inv.fold ps _ (fun q hq => hp q (List.mem_cons_of_mem _ hq)) (h.step (hp p List.mem_cons_self))
theorem Inv.close {l : Ld} {c : Nat} (hc : Cl l c) : ∀ (n : Nat) (b : List Nat), Inv c b → Inv c (closeF l n b)
  | 0, _, h => h
  | n + 1, b, h => by
    show Inv c (if joinR l b = b then b else closeF l n (joinR l b))
    split
    · exact h
    · exact Inv.close hc n _ (Inv.fold _ _ hc h)
theorem ndI_get {n i : Nat} (hi : i < 9) : (ndI n).getD i 0 = if i < n then 2 ^ i else 0 := by
  unfold ndI; rw [List.getD_eq_getElem?_getD, List.getElem?_map, List.getElem?_range hi]; rfl
theorem Inv.zero (c n : Nat) : Inv c (ndI n) := by
  intro i
  by_cases hi : i < 9
  · rw [ndI_get hi]
    split
    · refine ⟨fun h => sub_pow.2 h, fun h j hj => ?_⟩
      rw [Nat.testBit_two_pow, decide_eq_true_eq] at hj; subst hj; exact h
    · exact ⟨fun _ => Sub.zero _, fun _ j hj => by rw [Nat.zero_testBit] at hj; cases hj⟩
  · rw [List.getD_eq_getElem?_getD, List.getElem?_eq_none (by rw [ndI_len]; omega)]
    exact ⟨fun _ => Sub.zero _, fun _ j hj => by rw [Option.getD_none, Nat.zero_testBit] at hj; cases hj⟩
theorem nd_self {l : Ld} (o : LdOk l) {i : Nat} (hi : i < l.sacks.length) : ((openD l).nd.getD i 0).testBit i = true := by
  refine closeF_sub l 5000 (ndI l.sacks.length) i i ?_
  rw [ndI_get (by have := o.n; omega), if_pos hi, Nat.testBit_two_pow_self]
theorem nd_least {l : Ld} {c : Nat} (hc : Cl l c) {i : Nat} (hi : c.testBit i = true) : Sub ((openD l).nd.getD i 0) c :=
  (Inv.close hc 5000 _ (Inv.zero c _) i).1 hi
theorem nd_fix {l : Ld} (o : LdOk l) : ∀ p ∈ l.wth, joinStep (openD l).nd p = (openD l).nd :=
  foldl_fix _ _ (closeF_fix l 5000 _ (by have := msr_le (ndI l.sacks.length) (ndI_len _); omega) (ndI_small _))
theorem nd_len {l : Ld} : (openD l).nd.length = 9 := by show (closeF l 5000 _).length = 9; rw [closeF_len, ndI_len]
structure RightP (l : Ld) (c : Nat) : Prop where
  w : (sumW (wts l) c : Int) ≤ l.bears
  wp : Cl l c
  ap : ∀ p ∈ l.apart, ¬ (c.testBit p.1.toNat = true ∧ c.testBit p.2.toNat = true)
theorem hv_get {l : Ld} (o : LdOk l) {c : Nat} (hc : c < 2 ^ l.sacks.length) : (openD l).hv.getD c 0 = sumW (wts l) c := by
  have := pow9 o.n
  show (hvF (wts l) (2 ^ l.sacks.length)).getD c 0 = _
  rw [hvF_get (by omega), if_pos hc]
theorem bit_lt {c n i : Nat} (hc : c < 2 ^ n) (hi : c.testBit i = true) : i < n := by
  rcases Nat.lt_or_ge i n with h | h
  · exact h
  · rw [Nat.testBit_lt_two_pow (Nat.lt_of_lt_of_le hc (Nat.pow_le_pow_right (by omega) h))] at hi; cases hi
theorem whole_iff {l : Ld} (o : LdOk l) {c : Nat} (hc : c < 2 ^ l.sacks.length) : wholeB (openD l) c = true ↔ Cl l c ∧ ∀ p ∈ l.apart, ¬ (c.testBit p.1.toNat = true ∧ c.testBit p.2.toNat = true) := by
  have h9 := pow9 o.n
  have hn := o.n
  have hw : ((bits c).all fun i => diff ((openD l).nd.getD i.toNat 0) c == 0) = true ↔ ∀ i : Nat, c.testBit i = true → Sub ((openD l).nd.getD i 0) c := by
    rw [List.all_eq_true]
    constructor
    · intro h i hi
      have := h (i : Int) ((bits_iff (by omega) _).2 ⟨i, rfl, hi⟩)
      rw [beq_iff_eq] at this; exact diff_zero.1 this
    · intro h x hx
      obtain ⟨j, rfl, hj⟩ := (bits_iff (by omega) _).1 hx
      rw [beq_iff_eq]; exact diff_zero.2 (h j hj)
  have ha : (l.apart.all fun p => !inSet c p.1 || !inSet c p.2) = true ↔ ∀ p ∈ l.apart, ¬ (c.testBit p.1.toNat = true ∧ c.testBit p.2.toNat = true) := by
    rw [List.all_eq_true]
    constructor
    · intro h p hp
      have := h p hp
      simp only [inSet_bit] at this
      rintro ⟨h1, h2⟩
      rw [h1, h2] at this; cases this
    · intro h p hp
      have := h p hp
      simp only [inSet_bit]
      cases h1 : c.testBit p.1.toNat
      · rfl
      · cases h2 : c.testBit p.2.toNat
        · rfl
        · exact absurd ⟨h1, h2⟩ this
  unfold wholeB
  rw [Bool.and_eq_true, hw]
  show _ ∧ (l.apart.all fun p => !inSet c p.1 || !inSet c p.2) = true ↔ _
  rw [ha]
  refine and_congr_left fun _ => ?_
  constructor
  · intro h p hp
    have b := o.wp p hp
    have e := nd_fix o p hp
    have k1 := nd_self o (i := p.1.toNat) (by omega)
    have k2 := nd_self o (i := p.2.toNat) (by omega)
    have g1 : (allP (openD l).nd p).testBit p.1.toNat = true := by unfold allP; rw [Nat.testBit_or, k1]; rfl
    have g2 : (allP (openD l).nd p).testBit p.2.toNat = true := by unfold allP; rw [Nat.testBit_or, k2, Bool.or_true]
    have e1 := joinStep_get (openD l).nd p (i := p.1.toNat) (by rw [nd_len]; omega)
    have e2 := joinStep_get (openD l).nd p (i := p.2.toNat) (by rw [nd_len]; omega)
    rw [e, if_pos g1] at e1
    rw [e, if_pos g2] at e2
    have s1 : c.testBit p.1.toNat = true → c.testBit p.2.toNat = true := fun hb => h _ hb _ (by rw [e1, Nat.testBit_or, g2, Bool.or_true])
    have s2 : c.testBit p.2.toNat = true → c.testBit p.1.toNat = true := fun hb => h _ hb _ (by rw [e2, Nat.testBit_or, g1, Bool.or_true])
    cases hb1 : c.testBit p.1.toNat
    · cases hb2 : c.testBit p.2.toNat
      · rfl
      · rw [s2 hb2] at hb1; cases hb1
    · rw [s1 hb1]
  · intro h i hi; exact nd_least h hi
theorem right_iff {l : Ld} (o : LdOk l) {c : Nat} (hc : c < 2 ^ l.sacks.length) : rightB (openD l) c = true ↔ RightP l c := by
  unfold rightB
  rw [Bool.and_eq_true, decide_eq_true_eq, hv_get o hc, whole_iff o hc]
  exact ⟨fun ⟨h1, h2, h3⟩ => ⟨h1, h2, h3⟩, fun h => ⟨h.w, h.wp, h.ap⟩⟩
theorem diff_half (a b : Nat) : diff a b / 2 = diff (a / 2) (b / 2) := bit_ext fun i => by
  rw [← Nat.testBit_succ, diff_bit, diff_bit, Nat.testBit_succ, Nat.testBit_succ]
theorem diff_odd {a b : Nat} (h : Sub b a) : diff a b % 2 + b % 2 = a % 2 := by
  have e := diff_bit a b 0
  have hs := sub_odd h
  simp only [Nat.testBit_zero] at e
  rcases Nat.mod_two_eq_zero_or_one a with ha | ha <;> rcases Nat.mod_two_eq_zero_or_one b with hb | hb <;> rcases Nat.mod_two_eq_zero_or_one (diff a b) with hc | hc <;> simp [ha, hb, hc] at e hs ⊢
theorem sumW_split : ∀ (ws : List Nat) (s c : Nat), Sub c s → sumW ws (diff s c) + sumW ws c = sumW ws s
  | [], _, _, _ => rfl
  | w :: ws, s, c, h => by
    have ih := sumW_split ws (s / 2) (c / 2) (sub_half h)
    have ho := diff_odd h
    unfold sumW
    rw [diff_half]
    rcases Nat.mod_two_eq_zero_or_one s with ha | ha <;> rcases Nat.mod_two_eq_zero_or_one c with hb | hb <;> rcases Nat.mod_two_eq_zero_or_one (diff s c) with hc | hc <;> simp only [ha, hb, hc] at ho ⊢ <;> simp <;> omega
theorem sumW_le_of : ∀ (ws vs : List Nat) (s : Nat), ws.length = vs.length → (∀ i, ws.getD i 0 ≤ vs.getD i 0) → sumW ws s ≤ sumW vs s
  | [], [], _, _, _ => Nat.le_refl _
  | w :: ws, v :: vs, s, hl, h => by
    have h0 := h 0
    have := sumW_le_of ws vs (s / 2) (by simpa using hl) (fun i => by simpa using h (i + 1))
    simp only [List.getD_cons_zero] at h0
    unfold sumW; split <;> omega
  | [], _ :: _, _, hl, _ => by simp at hl
  | _ :: _, [], _, hl, _ => by simp at hl
theorem sumW_all : ∀ (ws : List Nat), sumW ws (2 ^ ws.length - 1) = ws.sum
  | [] => rfl
  | w :: ws => by
    have hp := Nat.two_pow_pos ws.length
    have e1 : (2 ^ (ws.length + 1) - 1) % 2 = 1 := by rw [Nat.pow_succ]; omega
    have e2 : (2 ^ (ws.length + 1) - 1) / 2 = 2 ^ ws.length - 1 := by rw [Nat.pow_succ]; omega
    unfold sumW
    rw [List.length_cons, e1, e2, sumW_all ws, List.sum_cons, if_pos rfl]
theorem Pk.sum {R : Nat → Bool} {n set : Nat} (h : Pk R n set) (ws : List Nat) (k : Nat) (hR : ∀ c, Sub c set → R c = true → sumW ws c ≤ k) : sumW ws set ≤ n * k := by
  induction h with
  | nil => rw [sumW_zero]; exact Nat.zero_le _
  | @cons n set c hr hs h0 t ih =>
    have h1 := ih fun c' hc' => hR c' (hc'.trans (sub_diff _ _))
    have h2 := hR c hs hr
    have h3 := sumW_split ws set c hs
    rw [Nat.succ_mul]; omega
theorem dup_sk (nl : Bool) (xs : List Sk) (hx : xs.length ≤ 100000) : Comp Try.prog 77 [.sl nl (xs.map skA)] (.sl false (xs.map skA)) := by
  refine Comp.body (T := tab) (res := [.tmp 2]) tab_ok [] Try.func77 rfl (by kernel_rfl) Try.ntmps77 rfl (by simp only [List.length_cons, List.length_nil]; decide) (by simp only [lowL, AV.low, lowSk]; rfl) ?_; conv => whnf
  refine XHold.mk ⟨by omega, by simp, by unfold Room; simp; omega⟩ ?_
  conv => whnf
  refine XHold.mk (wideSk xs) ?_
  conv => whnf
  refine XHold.mk ⟨rfl, rfl, by unfold Room; simp; omega⟩ ?_
  conv => whnf
  exact ⟨Froz.grow rfl (by simp) (lowSk xs)⟩
theorem dup_pr (nl : Bool) (xs : List (Int × Int)) (hx : xs.length ≤ 100000) : Comp Try.prog 78 [.sl nl (xs.map prA)] (.sl false (xs.map prA)) := by
  refine Comp.body (T := tab) (res := [.tmp 2]) tab_ok [] Try.func78 rfl (by kernel_rfl) Try.ntmps78 rfl (by simp only [List.length_cons, List.length_nil]; decide) (by simp only [lowL, AV.low, lowPr]; rfl) ?_; conv => whnf
  refine XHold.mk ⟨by omega, by simp, by unfold Room; simp; omega⟩ ?_
  conv => whnf
  refine XHold.mk (widePr xs) ?_
  conv => whnf
  refine XHold.mk ⟨rfl, rfl, by unfold Room; simp; omega⟩ ?_
  conv => whnf
  exact ⟨Froz.grow rfl (by simp) (lowPr xs)⟩
def ownL (l : Ld) : Ld := ⟨l.bears, l.shrink, false, l.sacks, false, l.apart, false, l.wth⟩
theorem own_c (l : Ld) (o : LdW l) : Comp Try.prog 34 [ldA l] (ldA (ownL l)) := by
  have h1 := o.h1
  have h2 := o.h2
  have h3 := o.h3
  refine Comp.body (T := tab) (res := [.cell 2 65]) tab_ok [1] Try.func34 rfl (by kernel_rfl) Try.ntmps34 rfl (by simp only [List.length_cons, List.length_nil]; decide) (by simp only [lowL, AV.low, ldL]; rfl) ?_; conv => whnf
  skip
  apply Walk.drawX tab_ok mixed_ok [] [10, 12, 14] (hsC [[.cells (ldC l), .cells [.int .i64 0, .int .i64 0, .sl true [], .sl true [], .sl true []]],
    [.cells (ldC { l with nls := false }), .cells [.int .i64 0, .int .i64 0, .sl true [], .sl true [], .sl true []]],
    [.cells (ldC { l with nls := false, nla := false }), .cells [.int .i64 0, .int .i64 0, .sl true [], .sl true [], .sl true []]],
    [.cells (ldC { l with nls := false, nla := false, nlw := false }), .cells [.int .i64 0, .int .i64 0, .sl true [], .sl true [], .sl true []]]]) [_, _, _, _, _, _, _, _, _, _, _, _, _, _, _] (by kernel_rfl) rfl
  · skip
    repeat' first | (with_reducible apply XAnd.mk) | ((first | (with_reducible apply Chk.go) | (with_reducible apply ChkA.go)); conv => whnf) | (exact XSame.mk rfl rfl) | (with_reducible exact trivial) | ((first | (refine XCall.ret (dup_sk _ l.sacks h1) ?_) | (refine XCall.ret (dup_pr _ l.apart (by omega)) ?_) | (refine XCall.ret (dup_pr _ l.wth (by omega)) ?_)); conv => whnf) | fail
  · skip
    repeat' first | (with_reducible apply XAnd.mk) | ((first | (with_reducible apply Chk.go) | (with_reducible apply ChkF.go) | (with_reducible apply ChkB.go)); conv => whnf) | (exact XSame.mk rfl rfl) | (with_reducible exact trivial) | ((refine XCall.ret (dup_pr _ l.apart (by omega)) ?_); conv => whnf) | fail
  · conv => whnf
    skip
    exact ⟨Froz.low (ldL (ownL l))⟩
def fewA (l : Ld) : AV := if 9 < manyD (openD l) then .tup [.sl true [], .int .i64 0, .int .i64 6] else .tup [.sl false (nats (loadI (openD l) (manyD (openD l)) (manyD (openD l))).out), natA (manyD (openD l)), .int .i64 0]
theorem few_c (l : Ld) (o : LdOk l) (w : LdW l) : Comp Try.prog 25 [ldA l] (fewA l) := by
  have h := fewest_c l w.w w.h1 w.h2 w.h3
  unfold fewestR fewestD at h
  rw [if_pos ((checkR_ok l).2 o)] at h
  exact h
theorem few_no (l : Ld) (o : LdOk l) (w : LdW l) (h : 9 < manyD (openD l)) : Comp Try.prog 25 [ldA l] (.tup [.sl true [], .int .i64 0, .int .i64 6]) := by
  have e := few_c l o w; unfold fewA at e; rwa [if_pos h] at e
theorem few_is (l : Ld) (o : LdOk l) (w : LdW l) (h : ¬ 9 < manyD (openD l)) : ∃ out : List Nat, Comp Try.prog 25 [ldA l] (.tup [.sl false (nats out), natA (manyD (openD l)), .int .i64 0]) := by
  have e := few_c l o w; unfold fewA at e; rw [if_neg h] at e; exact ⟨_, e⟩
theorem wshrink {m s s' : Int} (h0 : 0 ≤ m) (h : s ≤ s') : m - m * s' / 100 ≤ m - m * s / 100 := by
  have h1 : m * s ≤ m * s' := Int.mul_le_mul_of_nonneg_left h h0
  have := Int.ediv_le_ediv (show (0 : Int) < 100 by decide) h1
  omega
theorem RightP.bears {l : Ld} {b : Int} (hb : l.bears ≤ b) {c : Nat} (h : RightP l c) : RightP { l with bears := b } c :=
  ⟨by have := h.w; show (sumW (wts l) c : Int) ≤ b; omega, h.wp, h.ap⟩
theorem RightP.shrink {l : Ld} (o : LdOk l) {s : Int} (hs : l.shrink ≤ s) {c : Nat} (h : RightP l c) : RightP { l with shrink := s } c :=
  ⟨by
    have h1 := h.w
    have h2 := sumW_le_of (wts { l with shrink := s }) (wts l) c (by simp [wts]) (fun i => by
      simp only [wts, List.getD_eq_getElem?_getD, List.getElem?_map]
      cases e : l.sacks[i]? with
      | none => simp
      | some x =>
        simp only [Option.map_some, Option.getD_some]
        have hx := o.sk x (List.mem_of_getElem? e)
        unfold wt weightR
        have := wshrink (m := x.m) (by omega) hs
        dsimp only; omega)
    show (sumW (wts { l with shrink := s }) c : Int) ≤ l.bears
    omega, h.wp, h.ap⟩
theorem bits_sum (ps : List Int) (h0 : ∀ x ∈ ps, 0 ≤ x) : ∀ (f i s : Nat), s < 2 ^ f → ((bitsF f i s).map fun x => ps.getD x.toNat 0).sum = (sumW ((ps.drop i).map Int.toNat) s : Int)
  | 0, i, s, h => by
    have : s = 0 := by simpa using h
    subst this
    rw [sumW_zero]; rfl
  | f + 1, i, s, h => by
    have ih := bits_sum ps h0 f (i + 1) (s / 2) (by rw [Nat.pow_succ] at h; omega)
    have e : bitsF (f + 1) i s = if s = 0 then [] else if s % 2 = 1 then (i : Int) :: bitsF f (i + 1) (s / 2) else bitsF f (i + 1) (s / 2) := rfl
    rw [e]
    by_cases hs : s = 0
    · subst hs; rw [if_pos rfl, sumW_zero]; rfl
    · rw [if_neg hs]
      by_cases hi : i < ps.length
      · have hd : ps.drop i = ps.getD i 0 :: ps.drop (i + 1) := by
          rw [List.drop_eq_getElem_cons hi, List.getD_eq_getElem?_getD, List.getElem?_eq_getElem hi]; rfl
        have hp : 0 ≤ ps.getD i 0 := h0 _ (getD_mem hi)
        rw [hd, List.map_cons]
        unfold sumW
        by_cases ho : s % 2 = 1
        · rw [if_pos ho, if_pos ho, List.map_cons, List.sum_cons, ih]
          have : (i : Int).toNat = i := rfl
          rw [this]; omega
        · rw [if_neg ho, if_neg ho, ih]; omega
      · have hd : ps.drop i = [] := List.drop_eq_nil_of_le (by omega)
        have hd2 : ps.drop (i + 1) = [] := List.drop_eq_nil_of_le (by omega)
        have hg : ps.getD i 0 = 0 := by rw [List.getD_eq_getElem?_getD, List.getElem?_eq_none (by omega)]; rfl
        rw [hd2] at ih
        have z : ∀ k, sumW (([] : List Int).map Int.toNat) k = 0 := fun k => rfl
        rw [z] at ih
        rw [hd, z]
        by_cases ho : s % 2 = 1
        · rw [if_pos ho, List.map_cons, List.sum_cons, ih]
          have : (i : Int).toNat = i := rfl
          rw [this, hg]; rfl
        · rw [if_neg ho, ih]
structure PR where
  u : Int
  ps : List Int
structure PR.Ok (n : Nat) (r : PR) : Prop where
  u1 : 1 ≤ r.u
  u2 : r.u ≤ 12
  n : r.ps.length = n
  ps : ∀ x ∈ r.ps, 0 ≤ x ∧ x ≤ 12
def pc (n g : Nat) (u : Int) : List AV := [.int .i64 u, .gr g n]
def pg (ps : List Int) : Blk := .grow 3 ps.isEmpty (ints ps)
def wsL (l : Ld) : List Int := l.sacks.map (weightR l)
def e0 (l : Ld) : AV := .agg [.int .i64 l.bears, .sl (wsL l).isEmpty (ints (wsL l))]
inductive BS where
  | a (v : Hp)
  | b (v : Hp) (r : PR)
  | c (v : Hp) (r s : PR)
  | d (v : Hp) (r s t : PR)
def BS.Ok (n : Nat) : BS → Prop
  | .a v => v.Ok
  | .b v r => v.Ok ∧ r.Ok n
  | .c v r s => v.Ok ∧ r.Ok n ∧ s.Ok n
  | .d v r s t => v.Ok ∧ r.Ok n ∧ s.Ok n ∧ t.Ok n
def BS.k : BS → Nat
  | .a _ => 0
  | .b _ _ => 1
  | .c _ _ _ => 2
  | .d _ _ _ _ => 3
def BS.hp (u1 : Hp) (l : Ld) : BS → List Blk
  | .a v => [hpC u1, .cells (ldC l), hpC v, .grow 147 false [e0 l]]
  | .b v r => [hpC u1, .cells (ldC l), hpC v, .grow 147 false [e0 l, .agg (pc l.sacks.length 5 r.u)], .cells (pc l.sacks.length 5 r.u), pg r.ps]
  | .c v r s => [hpC u1, .cells (ldC l), hpC v, .grow 147 false [e0 l, .agg (pc l.sacks.length 5 r.u), .agg (pc l.sacks.length 7 s.u)], .cells (pc l.sacks.length 5 r.u), pg r.ps, .cells (pc l.sacks.length 7 s.u), pg s.ps]
  | .d v r s t => [hpC u1, .cells (ldC l), hpC v, .grow 147 false [e0 l, .agg (pc l.sacks.length 5 r.u), .agg (pc l.sacks.length 7 s.u), .agg (pc l.sacks.length 9 t.u)], .cells (pc l.sacks.length 5 r.u), pg r.ps, .cells (pc l.sacks.length 7 s.u), pg s.ps, .cells (pc l.sacks.length 9 t.u), pg t.ps]
theorem BS.low (u1 : Hp) (l : Ld) (g : BS) : ∀ x ∈ g.hp u1 l, x.low (g.hp u1 l).length = true := by
  cases g <;>
  · intro x hx
    simp only [BS.hp, List.mem_cons, List.not_mem_nil, or_false] at hx
    repeat' (rcases hx with rfl | hx)
    all_goals first | exact hpC_low _ | exact lowLd _ | exact lowI _ | (subst hx; first | exact lowI _ | (simp only [Blk.low, pc, e0, lowL, AV.low, lowI]; rfl)) | (simp only [Blk.low, pc, e0, lowL, AV.low, lowI]; rfl)
structure Eqv (n : Nat) (b : List Nat) : Prop where
  self : ∀ i, i < n → (b.getD i 0).testBit i = true
  same : ∀ i j, (b.getD j 0).testBit i = true → b.getD i 0 = b.getD j 0
  lt : ∀ i j, (b.getD j 0).testBit i = true → i < n ∧ j < n
theorem Eqv.zero {n : Nat} (hn : n ≤ 9) : Eqv n (ndI n) := by
  have g : ∀ i j, ((ndI n).getD j 0).testBit i = true → i = j ∧ j < n := by
    intro i j h
    by_cases hj : j < 9
    · rw [ndI_get hj] at h
      split at h
      · rw [Nat.testBit_two_pow, decide_eq_true_eq] at h; exact ⟨h.symm, by assumption⟩
      · rw [Nat.zero_testBit] at h; cases h
    · rw [List.getD_eq_getElem?_getD, List.getElem?_eq_none (by rw [ndI_len]; omega), Option.getD_none, Nat.zero_testBit] at h; cases h
  refine ⟨fun i hi => ?_, fun i j h => by rw [(g i j h).1], fun i j h => ?_⟩
  · rw [ndI_get (by omega), if_pos hi, Nat.testBit_two_pow_self]
  · have := g i j h; omega
def setN : List Bool → Nat
  | [] => 0
  | b :: bs => 2 * setN bs + b.toNat
theorem setN_bit : ∀ (bs : List Bool) (k : Nat), (setN bs).testBit k = bs.getD k false
  | [], k => by simp [setN]
  | b :: bs, 0 => by
    unfold setN; rw [Nat.testBit_zero]; cases b <;> simp <;> omega
  | b :: bs, k + 1 => by
    unfold setN; rw [Nat.testBit_succ, show (2 * setN bs + b.toNat) / 2 = setN bs by cases b <;> simp <;> omega, setN_bit bs k]; rfl
theorem setN_lt : ∀ (bs : List Bool), setN bs < 2 ^ bs.length
  | [] => by simp [setN]
  | b :: bs => by
    have := setN_lt bs
    unfold setN; rw [List.length_cons, Nat.pow_succ]; cases b <;> simp <;> omega
def boolN (n s : Nat) : List Bool := (List.range n).map fun k => s.testBit k
theorem boolN_len (n s : Nat) : (boolN n s).length = n := by simp [boolN]
theorem boolN_get {n s k : Nat} (hk : k < n) : (boolN n s).getD k false = s.testBit k := by
  unfold boolN; rw [List.getD_eq_getElem?_getD, List.getElem?_map, List.getElem?_range hk]; rfl
theorem bool_ext {bs : List Bool} {n s : Nat} (hl : bs.length = n) (h : ∀ k, k < n → bs.getD k false = s.testBit k) : bs = boolN n s :=
  eq_of_getD (d := false) (by rw [boolN_len, hl]) fun j hj => by rw [h j (by omega), boolN_get (by omega)]
abbrev bools (xs : List Bool) : List AV := xs.map .bool
theorem lowBo {n : Nat} (xs : List Bool) : lowL n (bools xs) = true := lowL_map (fun _ => rfl) xs
def lsK (bs : List Bool) (k : Nat) : List Int := ((List.range k).filter fun j => bs.getD j false).map fun j : Nat => (j : Int)
theorem lsK_next (bs : List Bool) (k : Nat) : lsK bs (k + 1) = if bs.getD k false = true then lsK bs k ++ [(k : Int)] else lsK bs k := by
  unfold lsK
  rw [List.range_succ, List.filter_append]
  by_cases h : bs.getD k false = true
  · rw [if_pos h, List.filter_cons_of_pos (p := fun j => bs.getD j false) h, List.filter_nil, List.map_append]; rfl
  · rw [if_neg h, List.filter_cons_of_neg (p := fun j => bs.getD j false) h, List.filter_nil, List.append_nil]
def lsN (bs : List Bool) : List Int := lsK bs bs.length
theorem bitsF_ls : ∀ (f i s : Nat), s < 2 ^ f → bitsF f i s = ((List.range f).filter fun j => s.testBit j).map fun j => ((i + j : Nat) : Int)
  | 0, i, s, h => rfl
  | f + 1, i, s, h => by
    have ih := bitsF_ls f (i + 1) (s / 2) (by rw [Nat.pow_succ] at h; omega)
    have e : bitsF (f + 1) i s = if s = 0 then [] else if s % 2 = 1 then (i : Int) :: bitsF f (i + 1) (s / 2) else bitsF f (i + 1) (s / 2) := rfl
    have e2 : ((List.range (f + 1)).filter fun j => s.testBit j).map (fun j => ((i + j : Nat) : Int)) = (if s % 2 = 1 then [(i : Int)] else []) ++ ((List.range f).filter fun j => (s / 2).testBit j).map fun j => ((i + 1 + j : Nat) : Int) := by
      rw [List.range_succ_eq_map, List.filter_cons, List.filter_map]
      have h0 : s.testBit 0 = decide (s % 2 = 1) := Nat.testBit_zero s
      have hf : ((fun j => s.testBit j) ∘ Nat.succ) = fun j => (s / 2).testBit j := by funext j; exact Nat.testBit_succ ..
      rw [hf, h0]
      by_cases hs : s % 2 = 1
      · rw [if_pos hs, if_pos (by simp [hs]), List.map_cons, List.map_map]
        show _ :: _ = _ :: _
        congr 1
        apply List.map_congr_left; intro j _; show ((i + (j + 1) : Nat) : Int) = _; congr 1; omega
      · rw [if_neg hs, if_neg (by simp [hs]), List.map_map]
        show _ = _
        rw [List.nil_append]
        apply List.map_congr_left; intro j _; show ((i + (j + 1) : Nat) : Int) = _; congr 1; omega
    rw [e, e2]
    by_cases h0 : s = 0
    · subst h0
      rw [if_pos rfl]
      have : ((List.range f).filter fun j => (0 / 2).testBit j) = [] := by rw [List.filter_eq_nil_iff]; intro j _; simp
      rw [this]; rfl
    · rw [if_neg h0, ih]
      by_cases hs : s % 2 = 1
      · rw [if_pos hs, if_pos hs]; rfl
      · rw [if_neg hs, if_neg hs]; rfl
theorem bits_ls {n s : Nat} (hn : n ≤ 9) (h : s < 2 ^ n) : lsN (boolN n s) = bits s := by
  have hp := pow9 hn
  have e : bits s = ((List.range 62).filter fun j => s.testBit j).map fun j => ((0 + j : Nat) : Int) := bitsF_ls 62 0 s (by omega)
  rw [e]
  have hr : List.range 62 = List.range n ++ (List.range (62 - n)).map (n + ·) := by rw [← List.range_add]; congr 1; omega
  rw [hr, List.filter_append]
  have h2 : ((List.range (62 - n)).map (n + ·)).filter (fun j => s.testBit j) = [] := by
    rw [List.filter_eq_nil_iff]
    intro j hj
    obtain ⟨k, _, rfl⟩ := List.mem_map.1 hj
    rw [Nat.testBit_lt_two_pow (Nat.lt_of_lt_of_le h (Nat.pow_le_pow_right (by omega) (by omega)))]; simp
  rw [h2, List.append_nil]
  unfold lsN lsK
  rw [boolN_len]
  have h3 : ((List.range n).filter fun j => (boolN n s).getD j false) = (List.range n).filter fun j => s.testBit j := by
    apply List.filter_congr
    intro j hj
    exact boolN_get (List.mem_range.1 hj)
  rw [h3]
  apply List.map_congr_left; intro j _; congr 1; omega
def reL (l : Ld) (a b c : Bool) : Ld := ⟨l.bears, l.shrink, a, l.sacks, b, l.apart, c, l.wth⟩
theorem closeF_re (l : Ld) (a b c : Bool) : ∀ (n : Nat) (x : List Nat), closeF (reL l a b c) n x = closeF l n x
  | 0, _ => rfl
  | n + 1, x => by
    show (if joinR l x = x then x else closeF (reL l a b c) n (joinR l x)) = if joinR l x = x then x else closeF l n (joinR l x)
    rw [closeF_re l a b c n]
theorem nd_re (l : Ld) (a b c : Bool) : (openD (reL l a b c)).nd = (openD l).nd := closeF_re l a b c 5000 _
theorem right_re (l : Ld) (a b c : Bool) (s : Nat) : rightB (openD (reL l a b c)) s = rightB (openD l) s := by
  unfold rightB wholeB
  rw [nd_re]; rfl
theorem drop_next {α : Type} [Inhabited α] {xs : List α} {k : Nat} (h : k < xs.length) : xs.drop k = xs.getD k default :: xs.drop (k + 1) := by
  rw [List.drop_eq_getElem_cons h, List.getD_eq_getElem?_getD, List.getElem?_eq_getElem h]; rfl
theorem idxR_cases {α : Type} [Inhabited α] (p : α → Bool) (xs : List α) : (idxR p xs = -1 ∧ ∀ x ∈ xs, p x = false) ∨ ∃ i : Nat, idxR p xs = i ∧ i < xs.length ∧ p (xs.getD i default) = true ∧ ∀ x ∈ xs.take i, p x = false := by
  unfold idxR
  cases h : xs.findIdx? p with
  | none => left; rw [List.findIdx?_eq_none_iff] at h; exact ⟨rfl, fun x hx => by simpa using h x hx⟩
  | some i =>
    right
    rw [List.findIdx?_eq_some_iff_getElem] at h
    obtain ⟨h1, h2, h3⟩ := h
    refine ⟨i, rfl, h1, by rw [List.getD_eq_getElem?_getD, List.getElem?_eq_getElem h1]; exact h2, fun x hx => ?_⟩
    obtain ⟨j, hj, rfl⟩ := List.mem_iff_getElem.1 hx
    rw [List.length_take] at hj
    rw [List.getElem_take]
    have := h3 j (by omega); simpa using this
structure DelOk (xs : List Int) (g : Int) (j : Nat) (ys : List Int) : Prop where
  n : ys.length = xs.length
  h : ys.take (keptL (xs.take j) g).length = keptL (xs.take j) g
  t : ∀ i, j ≤ i → ys.getD i default = xs.getD i default
  lt : (keptL (xs.take j) g).length < j
def cmpI (a b : Int) : Int := if a < b then -1 else if b < a then 1 else 0
def cmpL : List Int → List Int → Int
  | [], [] => 0
  | [], _ :: _ => -1
  | _ :: _, [] => 1
  | x :: xs, y :: ys => if x < y then -1 else if y < x then 1 else cmpL xs ys
theorem isNaN_c (a : Int) : Comp Try.prog 108 [.int .i64 a] (.bool false) := by
  refine Comp.body (T := tab) (res := [.tmp 2]) tab_ok [] Try.func108 rfl (by kernel_rfl) Try.ntmps108 rfl (by simp only [List.length_cons, List.length_nil]; decide) (by rfl) ?_; conv => whnf
  exact XOut.bool (by simp)
theorem cmpCompare_c (a b : Int) : Comp Try.prog 107 [.int .i64 a, .int .i64 b] (.int .i64 (cmpI a b)) := by
  refine Comp.body (T := tab) (res := [.tmp 4]) tab_ok [] Try.func107 rfl (by kernel_rfl) Try.ntmps107 rfl (by simp only [List.length_cons, List.length_nil]; decide) (by rfl) ?_; conv => whnf
  repeat' first | ((with_reducible apply XBr.ff); conv => whnf) | ((with_reducible apply XBr.dec) <;> (intro h; first | (exfalso; omega) | ((try simp only [List.length_map] at h); first | (exfalso; omega) | (conv => whnf)))) | ((refine XCall.ret (isNaN_c _) ?_); conv => whnf) | fail
  all_goals refine XOut.int ?_; unfold cmpI; split <;> first | rfl | omega | (split <;> first | rfl | omega)
theorem cmpLess_c (a b : Int) : Comp Try.prog 66 [.int .i64 a, .int .i64 b] (.bool (decide (a < b))) := by
  refine Comp.body (T := tab) (res := [.tmp 4]) tab_ok [] Try.func66 rfl (by kernel_rfl) Try.ntmps66 rfl (by simp only [List.length_cons, List.length_nil]; decide) (by rfl) ?_; conv => whnf
  repeat' first | ((first | (with_reducible apply XBr.ff) | (refine XCall.ret (isNaN_c _) ?_)); conv => whnf) | fail
  all_goals exact XOut.bool rfl
theorem cmpL_next {xs ys : List Int} {k : Nat} (hx : k < xs.length) (hy : k < ys.length) : cmpL (xs.drop k) (ys.drop k) = if xs.getD k default < ys.getD k default then -1 else if ys.getD k default < xs.getD k default then 1 else cmpL (xs.drop (k + 1)) (ys.drop (k + 1)) := by
  rw [drop_next hx, drop_next hy]; rfl
theorem cmpL_long {xs ys : List Int} {k : Nat} (hx : k < xs.length) (hy : ys.length ≤ k) : cmpL (xs.drop k) (ys.drop k) = 1 := by
  rw [drop_next hx, List.drop_of_length_le hy]; rfl
theorem cmpL_short {xs ys : List Int} {k : Nat} (hx : xs.length ≤ k) (hy : k < ys.length) : cmpL (xs.drop k) (ys.drop k) = -1 := by
  rw [drop_next hy, List.drop_of_length_le hx]; rfl
theorem cmpL_both {xs ys : List Int} {k : Nat} (hx : xs.length ≤ k) (hy : ys.length ≤ k) : cmpL (xs.drop k) (ys.drop k) = 0 := by
  rw [List.drop_of_length_le hy, List.drop_of_length_le hx]; rfl
theorem compare_c (n1 n2 : Bool) (xs ys : List Int) (hx : xs.length ≤ 100000) (hy : ys.length ≤ 100000) : Comp Try.prog 65 [.sl n1 (ints xs), .sl n2 (ints ys)] (.int .i64 (cmpL xs ys)) := by
  have e1 : ((ints xs).length : Int) = xs.length := by rw [List.length_map]
  have e2 : ((ints ys).length : Int) = ys.length := by rw [List.length_map]
  refine Comp.body (T := tab) (res := [.tmp 4]) tab_ok [] Try.func65 rfl (by kernel_rfl) Try.ntmps65 rfl (by simp only [List.length_cons, List.length_nil]; decide) (by simp only [lowL, AV.low, lowI]; rfl) ?_; conv => whnf
  skip
  refine Walk.loop tab_ok [] (fun k : Nat => k ≤ xs.length ∧ k ≤ ys.length ∧ cmpL xs ys = cmpL (xs.drop k) (ys.drop k)) (fun k => [(0, .sl n1 (ints xs)), (1, .sl n2 (ints ys)), (9, .sl n1 (ints xs)), (10, natA xs.length), (11, natA k)]) (fun _ => []) (fun k => xs.length - k) 0 ⟨Nat.zero_le _, Nat.zero_le _, by rw [List.drop_zero, List.drop_zero]⟩ rfl ⟨rfl, rfl, rfl, congrArg (fun n => some (AV.int .i64 n)) e1, rfl, trivial⟩ ?_
  rintro k ⟨hk, hk2, he⟩
  have q1 := fun h h' => cmpL_next (xs := xs) (ys := ys) (k := k) h h'
  have q2 := fun h h' => cmpL_long (xs := xs) (ys := ys) (k := k) h h'
  have q3 := fun h h' => cmpL_short (xs := xs) (ys := ys) (k := k) h h'
  have q4 := fun h h' => cmpL_both (xs := xs) (ys := ys) (k := k) h h'
  conv => whnf
  repeat' first | ((with_reducible apply XBr.dec) <;> (intro h; first | (exfalso; omega) | ((try simp only [List.length_map] at h); first | (exfalso; omega) | (conv => whnf)))) | ((with_reducible apply XBr.bne) <;> (intro h; first | (exfalso; omega) | (conv => whnf))) | ((first | (with_reducible refine XInt.i64 (by omega) (by omega) ?_) | ((with_reducible refine XIx.nat ?_ ?_ ?_); omega; (intro _; rfl)) | (refine XCall.ret (cmpCompare_c _ _) ?_)); conv => whnf) | fail
  · rw [he, q2 (by omega) (by omega)]; exact XOut.int rfl
  · have h' : cmpI (xs.getD k default) (ys.getD k default) ≠ 0 := h
    refine XOut.int ?_
    rw [he, q1 (by omega) (by omega)]
    show cmpI (xs.getD k default) (ys.getD k default) = _
    generalize xs.getD k default = a at h' ⊢
    generalize ys.getD k default = b at h' ⊢
    unfold cmpI at h' ⊢
    split
    · rfl
    · split
      · rfl
      · rename_i h1 h2; rw [if_neg h1, if_neg h2] at h'; exact absurd rfl h'
  · have h' : cmpI (xs.getD k default) (ys.getD k default) = 0 := h
    have h2 : ¬ xs.getD k default < ys.getD k default ∧ ¬ ys.getD k default < xs.getD k default := by
      generalize xs.getD k default = a at h' ⊢
      generalize ys.getD k default = b at h' ⊢
      unfold cmpI at h'
      split at h'
      · cases h'
      · split at h'
        · cases h'
        · omega
    rw [q1 (by omega) (by omega), if_neg h2.1, if_neg h2.2] at he
    exact XAgain.go (k + 1) ⟨by omega, by omega, he⟩ (by omega) rfl ⟨rfl, rfl, rfl, rfl, rfl, trivial⟩
  · rw [he, q3 (by omega) (by omega)]; exact XOut.int rfl
  · rw [he, q4 (by omega) (by omega)]; exact XOut.int rfl
def hit (R : Nat → Bool) (s a k : Nat) : Bool := R k && (a &&& k == 0) && (a + k == s)
def moreB (R g : Nat → Bool) (M a k s : Nat) : Bool := g s || (List.range a).any (fun b => g b && (List.range M).any (hit R s b)) || (g a && (List.range k).any (hit R s a))
def goesB (R : Nat → Bool) (M : Nat) : Nat → Nat → Bool
  | 0, s => s == 0
  | c + 1, s => moreB R (goesB R M c) M M 0 s
theorem add_or_and (a : Nat) : ∀ b, a + b = (a ||| b) + (a &&& b) := by
  induction a using Nat.strongRecOn with
  | ind a ih =>
    intro b
    by_cases h0 : a = 0
    · subst h0; simp
    · have h1 := ih (a / 2) (by omega) (b / 2)
      have h2 := Nat.div_add_mod (a ||| b) 2
      have h3 := Nat.div_add_mod (a &&& b) 2
      rw [Nat.or_div_two] at h2
      rw [Nat.and_div_two] at h3
      have m1 : (a ||| b) % 2 = (a % 2) ||| (b % 2) := by have := @Nat.or_mod_two_pow a b 1; simpa using this
      have m2 : (a &&& b) % 2 = (a % 2) &&& (b % 2) := by have := @Nat.and_mod_two_pow a b 1; simpa using this
      rcases Nat.mod_two_eq_zero_or_one a with ha | ha <;> rcases Nat.mod_two_eq_zero_or_one b with hb | hb <;> rw [ha, hb] at m1 m2 <;> simp only [Nat.or_zero, Nat.zero_or, Nat.or_self, Nat.and_self, Nat.and_zero, Nat.zero_and] at m1 m2 <;> omega
theorem disj_or {b k : Nat} (h : b &&& k = 0) : b + k = b ||| k := by have := add_or_and b k; omega
theorem disj_bit {b k i : Nat} (h : b &&& k = 0) : ¬ (b.testBit i = true ∧ k.testBit i = true) := fun e => by
  have : (b &&& k).testBit i = false := by rw [h]; exact Nat.zero_testBit i
  rw [Nat.testBit_and, e.1, e.2] at this; cases this
theorem goesB_iff {R : Nat → Bool} {n : Nat} : ∀ (c s : Nat), s < 2 ^ n → (goesB R (2 ^ n) c s = true ↔ ∃ k, k ≤ c ∧ Pk R k s)
  | 0, s, hs => by
    show (s == 0) = true ↔ _
    rw [beq_iff_eq]
    constructor
    · rintro rfl; exact ⟨0, Nat.le_refl _, .nil⟩
    · rintro ⟨k, hk, h⟩
      have : k = 0 := by omega
      subst this; exact h.none
  | c + 1, s, hs => by
    have ih := fun s hs => goesB_iff (R := R) (n := n) c s hs
    have e : goesB R (2 ^ n) (c + 1) s = true ↔ goesB R (2 ^ n) c s = true ∨ ∃ b, b < 2 ^ n ∧ goesB R (2 ^ n) c b = true ∧ ∃ k, k < 2 ^ n ∧ R k = true ∧ b &&& k = 0 ∧ b + k = s := by
      show moreB R (goesB R (2 ^ n) c) (2 ^ n) (2 ^ n) 0 s = true ↔ _
      unfold moreB hit
      simp only [Bool.or_eq_true, List.any_eq_true, List.mem_range, Bool.and_eq_true, beq_iff_eq, Nat.not_lt_zero, false_and, exists_false, and_false, or_false, and_assoc]
    rw [e]
    constructor
    · rintro (h | ⟨b, hb, hg, k, hk, hR, h0, rfl⟩)
      · obtain ⟨k, h1, h2⟩ := (ih s hs).1 h; exact ⟨k, by omega, h2⟩
      · obtain ⟨m, h1, h2⟩ := (ih b hb).1 hg
        by_cases hk0 : k = 0
        · subst hk0; exact ⟨m, by omega, by rw [Nat.add_zero]; exact h2⟩
        · refine ⟨m + 1, by omega, .cons k hR (fun i hi => ?_) hk0 ?_⟩
          · rw [disj_or h0, Nat.testBit_or, hi, Bool.or_true]
          · have : diff (b + k) k = b := bit_ext fun i => by
              rw [diff_bit, disj_or h0, Nat.testBit_or]
              have := disj_bit (i := i) h0
              cases hb : b.testBit i <;> cases hk : k.testBit i <;> simp_all
            rw [this]; exact h2
    · rintro ⟨m, hm, h⟩
      cases h with
      | nil => exact .inl ((ih 0 hs).2 ⟨0, Nat.zero_le _, .nil⟩)
      | @cons m _ k hr hsu h0 t =>
        have hd : diff s k ≤ s := (sub_diff s k).le
        have hkl : k ≤ s := hsu.le
        have hz : diff s k &&& k = 0 := bit_ext fun i => by
          rw [Nat.testBit_and, diff_bit, Nat.zero_testBit]; cases s.testBit i <;> cases k.testBit i <;> rfl
        refine .inr ⟨diff s k, by omega, (ih _ (by omega)).2 ⟨m, by omega, t⟩, k, by omega, hr, hz, ?_⟩
        rw [disj_or hz]
        exact bit_ext fun i => by
          rw [Nat.testBit_or, diff_bit]
          have := hsu i
          cases hk : k.testBit i
          · simp
          · rw [this hk]; rfl
theorem goesB_opt {R : Nat → Bool} {n c s v : Nat} (hs : s < 2 ^ n) (hc : c ≤ 9) (h : IsOpt R s v) : goesB R (2 ^ n) c s = decide (v ≤ c) := by
  rw [Bool.eq_iff_iff, goesB_iff c s hs, decide_eq_true_eq]
  constructor
  · rintro ⟨k, hk, hp⟩; have := h.lo k hp; omega
  · intro hv; exact ⟨v, hv, h.is (by omega)⟩
def better (W : Nat → Nat) (G : Nat → Bool) (b k : Nat) : Bool := G k && (decide (W b < W k) || decide (W k = W b) && decide (cmpL (bits k) (bits b) < 0))
def bestF (W : Nat → Nat) (G : Nat → Bool) : Nat → Nat
  | 0 => 0
  | k + 1 => if better W G (bestF W G k) k = true then k else bestF W G k
theorem bestF_le (W : Nat → Nat) (G : Nat → Bool) : ∀ k, bestF W G k ≤ k
  | 0 => Nat.le_refl _
  | k + 1 => by
    have := bestF_le W G k
    unfold bestF; split <;> omega
theorem bestF_lt (W : Nat → Nat) (G : Nat → Bool) {k : Nat} (h : 0 < k) : bestF W G k < k := by
  cases k with
  | zero => omega
  | succ k => have := bestF_le W G k; unfold bestF; split <;> omega
def wsum (l : Ld) (is : List Int) : Int := (is.map fun i => (l.sacks.map (weightR l)).getD i.toNat 0).sum
theorem wsum_bits {l : Ld} (o : LdOk l) {s : Nat} (hs : s < 2 ^ l.sacks.length) : wsum l (bits s) = (sumW (wts l) s : Int) := by
  have hp := pow9 o.n
  have h0 : ∀ x ∈ l.sacks.map (weightR l), 0 ≤ x := fun x hx => by
    obtain ⟨k, hk, rfl⟩ := List.mem_map.1 hx
    have := wt_le o hk; omega
  have := bits_sum (l.sacks.map (weightR l)) h0 62 0 s (by omega)
  rw [List.drop_zero, List.map_map] at this
  exact this
theorem bits_in {n s : Nat} (hn : n ≤ 9) (hs : s < 2 ^ n) : ∀ x ∈ bits s, 0 ≤ x ∧ x < n := fun x hx => by
  have := bitsF_bound 62 0 s n hs x hx; omega
def bestN (l : Ld) (c : Nat) : Nat := bestF (sumW (wts l)) (goesB (rightB (openD l)) (2 ^ l.sacks.length) c) (2 ^ l.sacks.length)
def bearL (l : Ld) (b : Int) : Ld := { l with bears := b }
def allGo (l : Ld) (c : Nat) (b : Int) : Bool := goesB (rightB (openD (bearL l b))) (2 ^ l.sacks.length) c (2 ^ l.sacks.length - 1)
def leastB (G : Int → Bool) : Nat → Int → Option Int
  | 0, _ => none
  | f + 1, b => if G b = true then some b else leastB G f (b + 1)
def bigR (l : Ld) (c : Nat) : Option Int := leastB (allGo l c) 100 1
def carE (l : Ld) (c : Int) : Int := if checkR l ≠ 0 then checkR l else if inB c 0 9 = true then 0 else 3
theorem bestX_c (l : Ld) (c : Int) (o : LdW l) : Comp Try.prog 26 [ldA l, .int .i64 c] (if carE l c = 0 then .tup [slA (bits (bestN l c.toNat)), natA (sumW (wts l) (bestN l c.toNat)), .int .i64 0] else .tup [.sl true [], .int .i64 0, .int .i64 (carE l c)]) := by
  have ho := opened_c l o.w o.h1 o.h2 o.h3
  unfold openR at ho
  refine Comp.body' (T := tab) (res := [.tmp 4, .tmp 5, .tmp 6]) tab_ok [] Try.func26 rfl (by kernel_rfl) Try.ntmps26 rfl (by simp only [List.length_cons, List.length_nil]; decide) (by simp only [lowL, AV.low, ldL]; rfl) ?_; conv => whnf
  by_cases h0 : checkR l = 0
  · have ok := (checkR_ok l).1 h0
    have hn := ok.n
    have hp9 := pow9 hn
    have dok := openD_full ok
    have hE : carE l c = if inB c 0 9 = true then 0 else 3 := by unfold carE; rw [if_neg (by omega)]
    rw [if_pos h0] at ho
    rw [hE]
    have hac := all_c (openD l) (show (openD l).l.sacks.length ≤ 9 from hn)
    have hof := fun set m hs hm => of_c _ dok 512 set m hs hs hm
    have hom := fun set m hm => ofM_ok (openD l) 512 set m hm
    have hop := fun set m hs hm hk => ofM_opt (openD l) 512 set m hs hs hm hk
    have hgo := fun s v (hs : s < 2 ^ l.sacks.length) (hc : c.toNat ≤ 9) (hv : IsOpt (rightB (openD l)) s v) => goesB_opt (R := rightB (openD l)) (c := c.toNat) hs hc hv
    have hW := fun s (hs : s < 2 ^ l.sacks.length) => hv_get (l := l) ok (c := s) hs
    have hwb : ∀ s, sumW (wts l) s ≤ 900 := fun s => by
      have := sumW_le (wts l) s (wts_le ok)
      have h2 : (wts l).length = l.sacks.length := List.length_map _
      omega
    have hBN : bestN l c.toNat = bestF (sumW (wts l)) (goesB (rightB (openD l)) (2 ^ l.sacks.length) c.toNat) (2 ^ l.sacks.length) := rfl
    have hR0 := memOk_zero (rightB (openD l))
    rw [hBN]
    clear hBN
    generalize goesB (rightB (openD l)) (2 ^ l.sacks.length) c.toNat = G at hgo
    generalize sumW (wts l) = W at hW hwb
    have hac2 : Comp Try.prog 61 [.pim (deskC (openD l))] (.int .i64 ((2 ^ l.sacks.length - 1 : Nat) : Int)) := hac
    clear hac
    have hhv := dok.hv
    have hnd := dok.nd
    generalize rightB (openD l) = R at hop hgo hR0
    generalize openD l = d at ho hac2 hof hom hop hW hhv hnd
    generalize hM : 2 ^ l.sacks.length = M at hp9 hgo hW hac2
    repeat' first | (with_reducible apply XBr.not) | ((with_reducible apply XBr.bne) <;> (intro h; first | (exfalso; omega) | (conv => whnf))) | ((first | (refine XCall.ret ho ?_) | (refine XCall.ret (in_c _ _ _) ?_)); conv => whnf) | ((with_reducible apply XBr.mk') <;> (intro h; conv => whnf)) | fail
    · rw [if_pos (by rw [if_pos h])]
      have hc : 0 ≤ c ∧ c ≤ 9 := inB_iff.1 h
      refine XCall.inl (T := tab) (res := [.cell 2 123]) tab_ok [] Try.func60 rfl (by kernel_rfl) Try.ntmps60 rfl (by simp only [List.length_append, List.length_cons, List.length_nil]; decide) ?_; conv => whnf
      repeat' first | ((first | (with_reducible refine XInt.i64 (by omega) (by omega) ?_) | (refine XCall.ret hac2 ?_)); conv => whnf) | fail
      refine Walk.loop tab_ok [] (fun p : Nat × List (Int × Nat) => p.1 ≤ M ∧ MOk p.2 ∧ MemOk R p.2) (fun p => [(1, .int .i64 c), (4, .sl true []), (5, .int .i64 0), (6, .int .i64 0), (7, .pim (deskC d)), (9, .ptr 4 0), (30, natA M), (10, natA (bestF W G p.1)), (31, natA p.1)])
        (fun p => [.cells [ofC d 1], .map (esA p.2), .cells [.mp 1], .cells [ofC d 1], .cells [ofC d 1]]) (fun p => M - p.1) (0, [(0, 0)]) ⟨Nat.zero_le _, MOk.zero, hR0⟩ rfl ⟨rfl, rfl, rfl, rfl, rfl, rfl, ?_, rfl, rfl, trivial⟩ ?_
      · exact congrArg (fun n => some (AV.int .i64 n)) (by omega)
      rintro ⟨k, m⟩ ⟨hk, hm, hmo⟩
      dsimp only at hk hm hmo ⊢
      have hbs : bestF W G (k + 1) = if better W G (bestF W G k) k = true then k else bestF W G k := rfl
      have hbe : better W G (bestF W G k) k = (G k && (decide (W (bestF W G k) < W k) || decide (W k = W (bestF W G k)) && decide (cmpL (bits k) (bits (bestF W G k)) < 0))) := rfl
      have hbl := bestF_le W G k
      have hlt : 0 < k → bestF W G k < k := fun h => bestF_lt W G h
      have hfin : k = M → bestF W G k = bestF W G M := fun h => by rw [h]
      generalize bestF W G k = b at hbs hbe hbl hlt hfin
      have w1 := hwb k
      have w2 := hwb b
      have l1 := bits_len k
      have l2 := bits_len b
      conv => whnf
      repeat' first | ((with_reducible apply XBr.dec) <;> (intro h; first | (exfalso; omega) | ((try simp only [List.length_map] at h); first | (exfalso; omega) | (conv => whnf)))) | fail
      · have hWk := hW k (by omega)
        have hWb := hW b (by omega)
        have hofk := hof k m (by omega) hm
        have homk := hom k m hm
        have hopk := hop k m (by omega) hm hmo
        have hgk := hgo k _ (by omega) (by omega) hopk.1
        apply Walk.drawX tab_ok mixed_ok [] [] (hsK _) [_, _, _, _, _, _, _, _, _, _, _, _, _, _] (by kernel_rfl) rfl
        · skip
          repeat' first | ((with_reducible refine XInt.i64 (by omega) (by omega) ?_); conv => whnf) | (with_reducible apply XAnd.mk) | ((first | (with_reducible apply Chk.go) | (with_reducible apply ChkA.go)); conv => whnf) | (exact XSame.mk rfl rfl) | (with_reducible exact trivial) | (((with_reducible refine XArr.natsA ?_ ?_ ?_); omega; omega); conv => whnf) | fail
        · skip
          repeat' first | (with_reducible apply XAnd.mk) | ((first | (with_reducible apply ChkF.go) | (with_reducible apply ChkB.go)); conv => whnf) | (with_reducible exact trivial) | fail
        conv => whnf
        skip
        refine Walk.norm tab_ok [] [(1, .int .i64 c), (4, .sl true []), (5, .int .i64 0), (6, .int .i64 0), (7, .pim (deskC d)), (9, .ptr 4 0), (10, natA b), (11, natA k), (12, .int .i64 ((d.hv.getD k 0 : Nat) - (d.hv.getD b 0 : Nat) : Int)), (30, natA M), (31, natA k)] ⟨rfl, rfl, rfl, rfl, rfl, rfl, rfl, rfl, rfl, rfl, rfl, trivial⟩ ?_
        rw [hWk, hWb]
        conv => whnf
        generalize hq : ofM d 512 k m = q at hofk homk hopk hgk
        have hof2 : (ofM d 512 k m).1 = q.1 ∧ (ofM d 512 k m).2 = q.2 := by rw [hq]; exact ⟨rfl, rfl⟩
        obtain ⟨v, m2⟩ := q
        dsimp only at hofk homk hopk hgk hof2
        repeat' first | ((first | (with_reducible apply XBr.tt) | (with_reducible apply XBr.ff)); conv => whnf) | ((with_reducible apply XBr.dec) <;> (intro h; first | (exfalso; omega) | ((try simp only [List.length_map] at h); first | (exfalso; omega) | (conv => whnf)))) | ((with_reducible apply XBr.beq) <;> (intro h; first | (exfalso; omega) | (conv => whnf))) | ((first | (with_reducible refine XInt.i64 (by omega) (by omega) ?_) | ((refine XCall.of hofk 1 rfl rfl rfl ?_); rw [hof2.1, hof2.2]) | (refine XCall.ret (list_c k (by omega)) ?_) | (refine XCall.ret (list_c b (by omega)) ?_) | (refine XCall.ret (compare_c _ _ (bits k) (bits b) (by omega) (by omega)) ?_)); conv => whnf) | fail
        · skip
          have hG : G k = true := by rw [hgk, decide_eq_true_eq]; omega
          have hbt : better W G b k = true := by rw [hbe, hG, decide_eq_true (show W b < W k by omega)]; rfl
          rw [hbt, if_pos rfl] at hbs
          refine XAgain.go (k + 1, m2) ⟨by dsimp only; omega, homk.2, hopk.2⟩ (by dsimp only; omega) rfl ⟨rfl, rfl, rfl, rfl, rfl, rfl, rfl, ?_, rfl, trivial⟩
          dsimp only; rw [hbs]; rfl
        · skip
          have hG : G k = true := by rw [hgk, decide_eq_true_eq]; omega
          have hbt : better W G b k = true := by rw [hbe, hG, decide_eq_true (show W k = W b by omega), decide_eq_true h, Bool.or_comm]; rfl
          rw [hbt, if_pos rfl] at hbs
          refine XAgain.go (k + 1, m2) ⟨by dsimp only; omega, homk.2, hopk.2⟩ (by dsimp only; omega) rfl ⟨rfl, rfl, rfl, rfl, rfl, rfl, rfl, ?_, rfl, trivial⟩
          dsimp only; rw [hbs]; rfl
        · skip
          have hG : G k = true := by rw [hgk, decide_eq_true_eq]; omega
          have hbt : better W G b k = false := by rw [hbe, hG, decide_eq_false (show ¬ W b < W k by omega), decide_eq_false h, Bool.and_false]; rfl
          rw [hbt, if_neg (by simp)] at hbs
          refine XAgain.go (k + 1, m2) ⟨by dsimp only; omega, homk.2, hopk.2⟩ (by dsimp only; omega) rfl ⟨rfl, rfl, rfl, rfl, rfl, rfl, rfl, ?_, rfl, trivial⟩
          dsimp only; rw [hbs]; rfl
        · skip
          have hG : G k = true := by rw [hgk, decide_eq_true_eq]; omega
          have hbt : better W G b k = false := by rw [hbe, hG, decide_eq_false (show ¬ W b < W k by omega), decide_eq_false (show ¬ W k = W b by omega)]; rfl
          rw [hbt, if_neg (by simp)] at hbs
          refine XAgain.go (k + 1, m2) ⟨by dsimp only; omega, homk.2, hopk.2⟩ (by dsimp only; omega) rfl ⟨rfl, rfl, rfl, rfl, rfl, rfl, rfl, ?_, rfl, trivial⟩
          dsimp only; rw [hbs]; rfl
        · have hG : G k = false := by rw [hgk, decide_eq_false_iff_not]; omega
          have hbt : better W G b k = false := by rw [hbe, hG]; rfl
          rw [hbt, if_neg (by simp)] at hbs
          refine XAgain.go (k + 1, m2) ⟨by dsimp only; omega, homk.2, hopk.2⟩ (by dsimp only; omega) rfl ⟨rfl, rfl, rfl, rfl, rfl, rfl, rfl, ?_, rfl, trivial⟩
          dsimp only; rw [hbs]; rfl
      · have hkM : k = M := by omega
        have hWb := hW b (by have := hlt (by omega); omega)
        have hb9 : b < M := by have := hlt (by omega); omega
        apply Walk.drawX tab_ok mixed_ok [] [] (hsK _) [_, _, _, _, _, _, _, _, _, _, _] (by kernel_rfl) rfl
        · skip
          repeat' first | (with_reducible apply XAnd.mk) | ((first | (with_reducible apply Chk.go) | (with_reducible apply ChkA.go)); conv => whnf) | (exact XSame.mk rfl rfl) | (with_reducible exact trivial) | ((first | ((with_reducible refine XArr.natsA ?_ ?_ ?_); omega; omega) | (refine XCall.ret (list_c b (by omega)) ?_)); conv => whnf) | fail
        · skip
          repeat' first | (with_reducible apply XAnd.mk) | ((first | (with_reducible apply ChkF.go) | (with_reducible apply ChkB.go)); conv => whnf) | (with_reducible exact trivial) | fail
        conv => whnf
        skip
        rw [hWb, hfin hkM]
        exact ⟨Froz.low (by show AV.low 0 (.tup [slA (bits (bestF W G M)), natA (W (bestF W G M)), .int .i64 0]) = true; simp only [AV.low, lowL, slA, lowI, natA]; rfl)⟩
    · rw [if_neg (by rw [if_neg (by rw [h]; simp)]; decide), if_neg (by rw [h]; simp)]; exact ⟨Froz.low rfl⟩
  · have hE : carE l c = checkR l := by unfold carE; rw [if_pos h0]
    rw [if_neg h0] at ho
    rw [hE, if_neg h0]
    generalize checkR l = e at h0 ho
    repeat' first | ((with_reducible apply XBr.bne) <;> (intro h; first | (exfalso; omega) | (conv => whnf))) | ((refine XCall.ret ho ?_); conv => whnf) | fail
    exact ⟨Froz.low rfl⟩
end GA
end
