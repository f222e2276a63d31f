/- Part 6 of a proof: Abs38, D36, D35, D37. -/
import Derived.Test.YtfpggfdojnnaiaaP5
section
namespace GA
open Go Go.RowKit
set_option linter.unusedVariables false
section
variable {P : Program} {N : Nat} {ρ : Option Nat} {H : List Blk} {σ : St} {D : List Nat} {Q : Post}

structure XFrz (u i n : Nat) (σ : St) (H : List Blk) (k : St → List Blk → Prop) : Prop where
  o : ∃ t nl els, σ u = some (.gr i n) ∧ lget H i = some (.grow t nl els) ∧ els.length = n ∧ k (updX σ u (.sl nl els)) (H.set i .dead)
theorem XFrz.go {u i n : Nat} {k : St → List Blk → Prop} {t : TypeId} {nl : Bool} {els : List AV} (hu : σ u = some (.gr i n)) (hi : lget H i = some (.grow t nl els)) (hn : els.length = n) (x : k (updX σ u (.sl nl els)) (H.set i .dead)) : XFrz u i n σ H k := ⟨t, nl, els, hu, hi, hn, x⟩
def frzQ (u i n : Nat) (Q : Post) : Post
  | .exit id, D, σ, H => XFrz u i n σ H (Q (.exit id) D)
  | e, D, σ, H => Q e D σ H
theorem Walk.thenFreeze {c : Code} (u i n : Nat) (x : Walk P N ρ c (frzQ u i n Q) D σ H) : Walk P N ρ c Q D σ H := by
  constructor
  intro E h β a w s
  refine wpIn_mono (x.o E h β a w s) fun e a' w' hc => ?_
  obtain ⟨D', σ', H', h', β', q, X, s'⟩ := hc
  cases e with
  | exit id =>
    obtain ⟨t, nl, els, hu, hi, hn, q⟩ := q.o
    rw [lget_eq] at hi
    obtain ⟨h'', s1, X1, hfz⟩ := s'.sr.freeze hi
    refine ⟨D', _, _, h'', β', q, X.trans X1, ⟨s1, fun t' r e => ?_, s'.size, s'.df.ext X1⟩⟩
    rw [updX_eq] at e; unfold upd at e
    split at e
    · rename_i hh; subst hh; cases e
      obtain ⟨v, h1, h2⟩ := s'.fits _ _ hu
      exact ⟨v, h1, gr_frz s'.sr hi hn h2 X1 hfz⟩
    · obtain ⟨v, h1, h2⟩ := s'.fits t' r e
      exact ⟨v, h1, X1.rep h2⟩
  | _ => exact ⟨D', σ', H', h', β', q, X, s'⟩
end
end GA
end

section
namespace GA
open Go Go.RowKit Go.Proofs
set_option pp.deepTerms true
set_option maxRecDepth 8000
set_option linter.unusedVariables false
set_option linter.unusedSimpArgs false

theorem vecF_succ {α : Type} (F : Nat → α) (n : Nat) : vecF (n + 1) F = vecF n F ++ [F n] := by rw [vecF_eq, vecF_eq, List.range_succ, List.map_append]; rfl
theorem vecF_low {n W : Nat} {F : Nat → AV} (h : ∀ i, i < W → (F i).low n = true) : lowL n (vecF W F) = true := by
  rw [lowL_iff]; intro x hx
  obtain ⟨i, hi, rfl⟩ := vecF_mem.1 hx
  exact h i hi
structure NI (b : Bd) (m n : Nat) (G : Nat → Bool) (D : Int → Int → Prop) : Prop where
  o : ∀ k : Nat, G k = true ↔ ∃ sp st, InC b m sp st ∧ D sp st ∧ grC b m n sp st - (moB b m).r = k
theorem NI.to {b : Bd} {m n : Nat} {G : Nat → Bool} {D D' : Int → Int → Prop} (h : NI b m n G D) (hd : ∀ x y, InC b m x y → (D' x y ↔ D x y)) : NI b m n G D' :=
  ⟨fun k => (h.o k).trans ⟨fun ⟨x, y, h1, h2, h3⟩ => ⟨x, y, h1, (hd x y h1).2 h2, h3⟩, fun ⟨x, y, h1, h2, h3⟩ => ⟨x, y, h1, (hd x y h1).1 h2, h3⟩⟩⟩
theorem NI.skip {b : Bd} {m n : Nat} {G : Nat → Bool} {D D' : Int → Int → Prop} {sp st : Int} (h : NI b m n G D) (hd : ∀ x y, InC b m x y → (D' x y ↔ D x y ∨ (x = sp ∧ y = st))) (hv : grC b m n sp st - (moB b m).r < 0) : NI b m n G D' := by
  refine ⟨fun k => (h.o k).trans ⟨fun ⟨x, y, h1, h2, h3⟩ => ⟨x, y, h1, (hd x y h1).2 (.inl h2), h3⟩, fun ⟨x, y, h1, h2, h3⟩ => ⟨x, y, h1, ?_, h3⟩⟩⟩
  rcases (hd x y h1).1 h2 with h4 | ⟨rfl, rfl⟩
  · exact h4
  · omega
theorem NI.put {b : Bd} {m n : Nat} {G : Nat → Bool} {D D' : Int → Int → Prop} {sp st : Int} (h : NI b m n G D) (hin : InC b m sp st) (hd : ∀ x y, InC b m x y → (D' x y ↔ D x y ∨ (x = sp ∧ y = st))) (hv : 0 ≤ grC b m n sp st - (moB b m).r) : NI b m n (updV G (grC b m n sp st - (moB b m).r).toNat true) D' := by
  refine ⟨fun k => ?_⟩
  unfold updV
  by_cases e : k = (grC b m n sp st - (moB b m).r).toNat
  · rw [if_pos e]
    exact ⟨fun _ => ⟨sp, st, hin, (hd sp st hin).2 (.inr ⟨rfl, rfl⟩), by omega⟩, fun _ => rfl⟩
  · rw [if_neg e]
    refine (h.o k).trans ⟨fun ⟨x, y, h1, h2, h3⟩ => ⟨x, y, h1, (hd x y h1).2 (.inl h2), h3⟩, fun ⟨x, y, h1, h2, h3⟩ => ⟨x, y, h1, ?_, h3⟩⟩
    rcases (hd x y h1).1 h2 with h4 | ⟨rfl, rfl⟩
    · exact h4
    · omega
def nxF (b : Bd) (m n k : Nat) : Bool := befF b m k n
theorem NI.all {b : Bd} (ok : BedOk b) {m n : Nat} (hm : m < b.months.length) {G : Nat → Bool} {D : Int → Int → Prop} (h : NI b m n G D) (hd : ∀ x y, InC b m x y → D x y) (k : Nat) : G k = nxF b m n k := by
  unfold nxF befF
  rw [Bool.eq_iff_iff, decide_eq_true_iff, h.o k, mem_lv ok hm]
  exact ⟨fun ⟨x, y, h1, h2, h3⟩ => ⟨x, y, h1, h3⟩, fun ⟨x, y, h1, h3⟩ => ⟨x, y, h1, hd x y h1, h3⟩⟩
def nxRow (b : Bd) (m n : Nat) : AV := .sl false (bls (b.room + 1).toNat (nxF b m n))
def nxMo (b : Bd) (m : Nat) : AV := .sl false (vecF (b.room + 1).toNat (nxRow b m))
def nextA (b : Bd) : AV := .sl false (vecF b.months.length (nxMo b))
theorem nxRow_low {k : Nat} (b : Bd) (m n : Nat) : (nxRow b m n).low k = true := bls_low _ _
theorem nxMo_low {k : Nat} (b : Bd) (m : Nat) : (nxMo b m).low k = true := vecF_low fun _ _ => nxRow_low _ _ _
set_option maxHeartbeats 1000000 in
theorem next_c (b : Bd) (ok : BedOk b) : Comp Try.prog 41 [bedA b] (nextA b) := by
  have m1 := ok.m1
  have m2 := ok.m2
  have r1 := ok.r1
  have r2 := ok.r2
  have e1 : ((b.months.map moA).length : Int) = b.months.length := by rw [List.length_map]
  refine Comp.body (T := tab) (res := [.tmp 2]) tab_ok [] Try.func41 rfl (by kernel_rfl) Try.ntmps41 rfl (by simp only [List.length_cons, List.length_nil]; decide) (by simp only [lowL, bedL]; rfl) ?_; conv => whnf
  skip
  refine Walk.nilgr 3 72 rfl ?_
  refine Walk.loopGK tab_ok [] [(1, _), (2, _)] ⟨rfl, rfl, trivial⟩ (fun m : Nat => m ≤ b.months.length) (fun m => [(3, .gr 0 m), (4, natA m)]) (fun m => [.grow 72 (decide (m = 0)) (vecF m (nxMo b))]) (fun m => b.months.length - m) 0 (Nat.zero_le _) (by rw [vecF_eq]; rfl) ⟨rfl, rfl, trivial⟩ ?_ (fun _ _ => (show (1 : Nat) ≤ 1 from Nat.le_refl 1)) ?_
  · intro m _
    refine ⟨fun z hz => ?_, fun z hz => ?_⟩
    · rw [List.mem_singleton] at hz; subst hz; exact vecF_low fun _ _ => nxMo_low _ _
    · simp only [List.cons_append, List.nil_append, List.mem_cons, List.not_mem_nil, or_false] at hz
      rcases hz with rfl | rfl | rfl | rfl <;> first | rfl | exact lowBd b
  intro m hm
  conv => whnf
  by_cases hlt : m < b.months.length
  · have hmo := ok.mo' hlt
    have hgb := fun (n : Nat) (sp st : Int) (q : InC b m sp st) => grC_b ok hlt (n := n) q
    have hgr := fun (n : Nat) (hn : (n : Int) ≤ b.room) (sp st : Int) (q : InC b m sp st) => refGross_c b (moB b m) n sp st (by omega) (by omega) hmo.1 hmo.2.1 (by omega) (by omega) (by have := q.1; omega) (by have := q.2.1; omega) (by have := q.2.2.1; omega) (by have := q.2.2.2; omega)
    change ∀ (n : Nat) (hn : (n : Int) ≤ b.room) (sp st : Int) (q : InC b m sp st), Comp Try.prog _ _ (.int .i64 (grC b m n sp st)) at hgr
    have hml : (vecF m (nxMo b)).length = m := vecF_len _ _
    repeat' first | ((with_reducible apply XBr.dec) <;> (intro h; first | (exfalso; omega) | ((try simp only [List.length_map] at h); first | (exfalso; omega) | (conv => whnf)))) | (((with_reducible refine XIx.nat ?_ ?_ ?_); omega; (intro _; rfl)); conv => whnf) | fail
    refine Walk.nilgr 6 75 rfl ?_
    refine Walk.thenFreeze 6 2 (b.room + 1).toNat ?_
    refine Walk.loopGK tab_ok [] [(1, _), (2, _), (3, _), (4, _), (5, _)] ⟨rfl, rfl, rfl, rfl, rfl, trivial⟩ (fun n : Nat => (n : Int) ≤ b.room + 1) (fun n => [(6, .gr 2 n), (7, natA n)]) (fun n => [.grow 72 (decide (m = 0)) (vecF m (nxMo b)), .cells (moC (moB b m)), .grow 75 (decide (n = 0)) (vecF n (nxRow b m))]) (fun n => (b.room + 1).toNat - n) 0 (by omega) (by rw [vecF_eq (nxRow b m)]; rfl) ⟨rfl, rfl, trivial⟩ ?_ (fun _ _ => (show (3 : Nat) ≤ 3 from Nat.le_refl 3)) ?_
    · intro n _
      refine ⟨fun z hz => ?_, fun z hz => ?_⟩
      · simp only [List.mem_cons, List.not_mem_nil, or_false] at hz
        rcases hz with rfl | rfl | rfl
        · exact vecF_low fun _ _ => nxMo_low _ _
        · rfl
        · exact vecF_low fun _ _ => nxRow_low _ _ _
      · simp only [List.cons_append, List.nil_append, List.mem_cons, List.not_mem_nil, or_false] at hz
        rcases hz with rfl | rfl | rfl | rfl | rfl | rfl | rfl <;> first | rfl | exact lowBd b
    intro n hn
    have hnl : (vecF n (nxRow b m)).length = n := vecF_len _ _
    conv => whnf
    by_cases hltn : (n : Int) ≤ b.room
    · skip
      repeat' first | ((with_reducible apply XBr.dec) <;> (intro h; first | (exfalso; omega) | ((try simp only [List.length_map] at h); first | (exfalso; omega) | (conv => whnf)))) | ((with_reducible refine XInt.i64 (by omega) (by omega) ?_); conv => whnf) | ((with_reducible refine XHold.mk ?_ ?_); (first | omega | rfl | decide | exact ⟨rfl, by decide, rfl⟩ | exact wideI _ | exact widePr _ | exact wideSk _ | (unfold Room; constructor <;> ((try simp) <;> omega)) | exact ⟨rfl, by simp only [List.length_map], by unfold Room; constructor <;> ((try simp) <;> omega)⟩ | exact ⟨by omega, by omega, by unfold Room; constructor <;> ((try simp) <;> omega)⟩); conv => whnf) | fail
      refine Walk.thenFreeze 8 3 (b.room + 1).toNat ?_
      refine Walk.loopK tab_ok [] [(1, _), (2, _), (3, _), (4, _), (5, _), (6, _), (7, _), (8, _)] ⟨rfl, rfl, rfl, rfl, rfl, rfl, rfl, rfl, trivial⟩ (fun q : Int × (Nat → Bool) => (moB b m).pl ≤ q.1 ∧ q.1 ≤ (moB b m).ph + 1 ∧ NI b m n q.2 fun x _ => x < q.1) (fun q => [(9, .int .i64 q.1)]) (fun q => [.grow 72 (decide (m = 0)) (vecF m (nxMo b)), .cells (moC (moB b m)), .grow 75 (decide (n = 0)) (vecF n (nxRow b m)), .grow 4 false (bls (b.room + 1).toNat q.2)]) (fun q => ((moB b m).ph + 1 - q.1).toNat) ((moB b m).pl, fun _ => false) ⟨Int.le_refl _, by dsimp only; omega, ⟨fun k => ⟨fun h => (by cases h), fun ⟨x, y, h1, h2, _⟩ => absurd h1.1 (by dsimp only at h2; omega)⟩⟩⟩ ?_ ⟨rfl, trivial⟩ ?_
      · show [_, _, _, Blk.grow _ false (bls _ _)] = [_, _, _, Blk.grow _ false (List.replicate _ _)]
        rw [bls0]
      rintro ⟨sp, G⟩ ⟨hs1, hs2, hG⟩
      dsimp only at hs1 hs2 hG ⊢
      conv => whnf
      by_cases hlts : sp ≤ (moB b m).ph
      · skip
        repeat' first | ((with_reducible apply XBr.dec) <;> (intro h; first | (exfalso; omega) | ((try simp only [List.length_map] at h); first | (exfalso; omega) | (conv => whnf)))) | fail
        refine Walk.loopK tab_ok [] [(1, _), (2, _), (3, _), (4, _), (5, _), (6, _), (7, _), (8, _), (9, _)] ⟨rfl, rfl, rfl, rfl, rfl, rfl, rfl, rfl, rfl, trivial⟩ (fun q : Int × (Nat → Bool) => (moB b m).tl ≤ q.1 ∧ q.1 ≤ (moB b m).th + 1 ∧ NI b m n q.2 fun x y => x < sp ∨ (x = sp ∧ y < q.1)) (fun q => [(10, .int .i64 q.1)]) (fun q => [.grow 72 (decide (m = 0)) (vecF m (nxMo b)), .cells (moC (moB b m)), .grow 75 (decide (n = 0)) (vecF n (nxRow b m)), .grow 4 false (bls (b.room + 1).toNat q.2)]) (fun q => ((moB b m).th + 1 - q.1).toNat) ((moB b m).tl, G) ⟨Int.le_refl _, by dsimp only; omega, hG.to fun x y h => by have := h.2.2.1; dsimp only; omega⟩ rfl ⟨rfl, trivial⟩ ?_
        rintro ⟨st, G⟩ ⟨ht1, ht2, hG⟩
        dsimp only at ht1 ht2 hG ⊢
        conv => whnf
        by_cases hltt : st ≤ (moB b m).th
        · have hin : InC b m sp st := ⟨hs1, hlts, ht1, hltt⟩
          have hg := hgr n hltn sp st hin
          have hb := hgb n sp st hin
          have hput := hG.put (D' := fun x y => x < sp ∨ (x = sp ∧ y < st + 1)) hin (fun x y _ => by omega)
          have hskip := hG.skip (D' := fun x y => x < sp ∨ (x = sp ∧ y < st + 1)) (sp := sp) (st := st) (fun x y _ => by omega)
          generalize grC b m n sp st = v at hg hb hput hskip
          repeat' first | ((with_reducible apply XBr.dec) <;> (intro h; first | (exfalso; omega) | ((try simp only [List.length_map] at h); first | (exfalso; omega) | (conv => whnf)))) | ((with_reducible refine XInt.i64 (by omega) (by omega) ?_); conv => whnf) | (with_reducible apply XAnd.mk) | ((first | (with_reducible apply Chk.go) | (with_reducible apply ChkA.go) | (with_reducible apply ChkF.go) | (with_reducible apply ChkB.go)); conv => whnf) | (exact XSame.mk rfl rfl) | (with_reducible exact trivial) | (apply Walk.drawN (id := 17) tab_ok mixed_ok [] [] (hsU _) [_, _, _, _, _, _, _, _, _, _, _] (by kernel_rfl) rfl) | ((first | (with_reducible apply XNext.mk) | (refine XCall.ret hg ?_) | (refine XHold.mk ⟨bls_len _ _, rfl, by omega, by omega⟩ ?_) | (refine XPut.bls (v - (moB b m).r).toNat rfl rfl (by omega) ?_)); conv => whnf) | fail
          · rename_i h
            exact XAgain.go (st + 1, _) ⟨by dsimp only; omega, by dsimp only; omega, hput h⟩ (by dsimp only; omega) rfl ⟨rfl, rfl, rfl, rfl, rfl, rfl, rfl, rfl, rfl, rfl, trivial⟩
          · rename_i h
            exact XAgain.go (st + 1, G) ⟨by dsimp only; omega, by dsimp only; omega, hskip (Int.not_le.1 h)⟩ (by dsimp only; omega) rfl ⟨rfl, rfl, rfl, rfl, rfl, rfl, rfl, rfl, rfl, rfl, trivial⟩
        · skip
          repeat' first | ((with_reducible apply XBr.dec) <;> (intro h; first | (exfalso; omega) | ((try simp only [List.length_map] at h); first | (exfalso; omega) | (conv => whnf)))) | ((with_reducible refine XInt.i64 (by omega) (by omega) ?_); conv => whnf) | fail
          exact XAgain.go (sp + 1, G) ⟨by dsimp only; omega, by dsimp only; omega, hG.to fun x y h => by have := h.2.2.2; dsimp only; omega⟩ (by dsimp only; omega) rfl ⟨rfl, rfl, rfl, rfl, rfl, rfl, rfl, rfl, rfl, trivial⟩
      · have hrow : bls (b.room + 1).toNat G = bls (b.room + 1).toNat (nxF b m n) := congrArg (List.map AV.bool) (vecF_congr fun k _ => hG.all ok hlt (fun x y h => by have := h.2.1; omega) k)
        rw [hrow]
        repeat' first | ((with_reducible apply XBr.dec) <;> (intro h; first | (exfalso; omega) | ((try simp only [List.length_map] at h); first | (exfalso; omega) | (conv => whnf)))) | ((with_reducible refine XInt.i64 (by omega) (by omega) ?_); conv => whnf) | ((with_reducible refine XHold.mk ?_ ?_); (first | omega | rfl | decide | exact ⟨rfl, by decide, rfl⟩ | exact wideI _ | exact widePr _ | exact wideSk _ | (unfold Room; constructor <;> ((try simp) <;> omega)) | exact ⟨rfl, by simp only [List.length_map], by unfold Room; constructor <;> ((try simp) <;> omega)⟩ | exact ⟨by omega, by omega, by unfold Room; constructor <;> ((try simp) <;> omega)⟩); conv => whnf) | ((refine XFrz.go rfl rfl (bls_len _ _) ?_); conv => whnf) | fail
        refine XAgainG.go (n + 1) [.dead] (by omega) (by omega) ?_ ⟨rfl, rfl, rfl, rfl, rfl, rfl, rfl, trivial⟩
        rw [vecF_succ (nxRow b m), show decide (n + 1 = 0) = (decide (n = 0) && false) by simp]; rfl
    · obtain rfl : n = (b.room + 1).toNat := by omega
      repeat' first | ((with_reducible apply XBr.dec) <;> (intro h; first | (exfalso; omega) | ((try simp only [List.length_map] at h); first | (exfalso; omega) | (conv => whnf)))) | ((with_reducible refine XInt.i64 (by omega) (by omega) ?_); conv => whnf) | ((with_reducible refine XHold.mk ?_ ?_); (first | omega | rfl | decide | exact ⟨rfl, by decide, rfl⟩ | exact wideI _ | exact widePr _ | exact wideSk _ | (unfold Room; constructor <;> ((try simp) <;> omega)) | exact ⟨rfl, by simp only [List.length_map], by unfold Room; constructor <;> ((try simp) <;> omega)⟩ | exact ⟨by omega, by omega, by unfold Room; constructor <;> ((try simp) <;> omega)⟩); conv => whnf) | ((refine XFrz.go rfl rfl (vecF_len _ _) ?_); conv => whnf) | fail
      refine XAgainG.go (m + 1) [.cells (moC (moB b m)), .dead] (by omega) (by omega) ?_ ⟨rfl, rfl, rfl, rfl, trivial⟩
      rw [vecF_succ (nxMo b), show decide (m + 1 = 0) = (decide (m = 0) && false) by simp]
      have e4 : decide ((b.room + 1).toNat = 0) = false := decide_eq_false (by omega)
      rw [e4]; rfl
  · obtain rfl : m = b.months.length := by omega
    repeat' first | ((with_reducible apply XBr.dec) <;> (intro h; first | (exfalso; omega) | ((try simp only [List.length_map] at h); first | (exfalso; omega) | (conv => whnf)))) | fail
    have e3 : decide (b.months.length = 0) = false := decide_eq_false (by omega)
    have hz := Froz.grow (P := Try.prog) (H := [.grow 72 (decide (b.months.length = 0)) (vecF b.months.length (nxMo b))]) (i := 0) (n := b.months.length) rfl (vecF_len _ _) (vecF_low fun _ _ => nxMo_low _ _)
    rw [e3] at hz ⊢
    exact ⟨hz⟩
end GA
end

section
namespace GA
open Go Go.RowKit Go.Proofs
set_option pp.deepTerms true
set_option maxRecDepth 8000
set_option linter.unusedVariables false
set_option linter.unusedSimpArgs false

theorem great_iff {b : Bd} : great04 b = false ↔ b.months.length ≤ 14 ∧ b.surveys.length ≤ 12 := by
  unfold great04
  rw [Bool.or_eq_false_iff, decide_eq_false_iff_not, decide_eq_false_iff_not]; omega
def bzero : List AV := [.int .i64 0, .int .i64 0, .int .i64 0, .sl true [], .sl true []]
end GA
end

section
namespace GA
open Go Go.RowKit Go.Proofs
set_option pp.deepTerms true
set_option maxRecDepth 8000
set_option linter.unusedVariables false
set_option linter.unusedSimpArgs false

theorem leaveA_tup (b : Bd) (m a sp st : Int) : ∃ v e, leaveA b m a sp st = .tup [.int .i64 v, .int .i64 e] := by
  unfold leaveA
  split; · exact ⟨_, _, rfl⟩
  split; · exact ⟨_, _, rfl⟩
  split; · exact ⟨_, _, rfl⟩
  split; · exact ⟨_, _, rfl⟩
  split; · exact ⟨_, _, rfl⟩
  exact ⟨_, _, rfl⟩
theorem refLeaves_c (b : Bd) (m a sp st : Int) (hm : b.months.length ≤ 100000) (hs : b.surveys.length ≤ 100000) : Comp Try.prog 39 [bedA b, .int .i64 m, .int .i64 a, chA sp st] (leaveA b m a sp st) := by
  unfold leaveA
  have e1 : ((b.months.map moA).length : Int) = b.months.length := by rw [List.length_map]
  have hc := refCheck04_c b hm hs
  by_cases hb : bedE b = 0
  · have ok := (bedE_iff b).1 hb
    have r1 := ok.r1
    have r2 := ok.r2
    have ho1 := off04_c m 0 ((b.months.length : Int) - 1)
    have ho2 := off04_c a 0 b.room
    rw [hb] at hc
    rw [if_neg (fun h => h hb)]
    by_cases h1 : inZ m 0 ((b.months.length : Int) - 1) = false
    · rw [h1] at ho1
      rw [← e1] at ho1
      rw [if_pos h1]
      refine Comp.body (T := tab) (res := [.tmp 8, .tmp 9]) tab_ok [] Try.func39 rfl (by kernel_rfl) Try.ntmps39 rfl (by simp only [List.length_cons, List.length_nil]; decide) (by simp only [lowL, bedL, AV.low]; rfl) ?_; conv => whnf
      repeat' first | ((with_reducible apply XBr.ff); conv => whnf) | (with_reducible apply XBr.not) | ((with_reducible apply XBr.bne) <;> (intro h; first | (exfalso; omega) | (conv => whnf))) | ((first | (with_reducible refine XInt.i64 (by omega) (by omega) ?_) | (refine XCall.ret hc ?_) | (refine XCall.ret ho1 ?_)); conv => whnf) | fail
      exact ⟨.low rfl⟩
    · rw [if_neg h1]
      rw [Bool.not_eq_false] at h1
      rw [h1] at ho1
      rw [← e1] at ho1
      by_cases h2 : inZ a 0 b.room = false
      · rw [h2] at ho2
        rw [if_pos h2]
        refine Comp.body (T := tab) (res := [.tmp 8, .tmp 9]) tab_ok [] Try.func39 rfl (by kernel_rfl) Try.ntmps39 rfl (by simp only [List.length_cons, List.length_nil]; decide) (by simp only [lowL, bedL, AV.low]; rfl) ?_; conv => whnf
        repeat' first | ((first | (with_reducible apply XBr.tt) | (with_reducible apply XBr.ff)); conv => whnf) | (with_reducible apply XBr.not) | ((with_reducible apply XBr.bne) <;> (intro h; first | (exfalso; omega) | (conv => whnf))) | ((first | (with_reducible refine XInt.i64 (by omega) (by omega) ?_) | (refine XCall.ret hc ?_) | (refine XCall.ret ho1 ?_) | (refine XCall.ret ho2 ?_)); conv => whnf) | fail
        exact ⟨.low rfl⟩
      · rw [if_neg h2]
        rw [Bool.not_eq_false] at h2
        rw [h2] at ho2
        obtain ⟨q1, q2⟩ := inZ_iff.1 h1
        obtain ⟨q3, q4⟩ := inZ_iff.1 h2
        obtain ⟨k, rfl⟩ : ∃ k : Nat, m = k := ⟨m.toNat, by omega⟩
        rw [Int.toNat_natCast]
        have hk : k < b.months.length := by omega
        have hmo := ok.mo' hk
        have ho3 := off04_c sp (moB b k).pl (moB b k).ph
        have ho4 := off04_c st (moB b k).tl (moB b k).th
        by_cases h3 : chanceB (moB b k) sp st = false
        · rw [if_pos h3]
          unfold chanceB at h3
          refine Comp.body (T := tab) (res := [.tmp 8, .tmp 9]) tab_ok [] Try.func39 rfl (by kernel_rfl) Try.ntmps39 rfl (by simp only [List.length_cons, List.length_nil]; decide) (by simp only [lowL, bedL, AV.low]; rfl) ?_; conv => whnf
          repeat' first | ((first | (with_reducible apply XBr.tt) | (with_reducible apply XBr.ff)); conv => whnf) | (with_reducible apply XBr.not) | ((with_reducible apply XBr.bne) <;> (intro h; first | (exfalso; omega) | (conv => whnf))) | ((first | (with_reducible refine XInt.i64 (by omega) (by omega) ?_) | ((with_reducible refine XIx.nat ?_ ?_ ?_); omega; (intro _; rfl))); conv => whnf) | (with_reducible apply XAnd.mk) | ((first | (with_reducible apply Chk.go) | (with_reducible apply ChkA.go) | (with_reducible apply ChkF.go) | (with_reducible apply ChkB.go)); conv => whnf) | (exact XSame.mk rfl rfl) | (with_reducible exact trivial) | (apply Walk.drawN (id := 11) tab_ok mixed_ok [] [] (hsU _) [_, _, _, _, _, _, _, _, _] (by kernel_rfl) rfl) | ((first | (with_reducible apply XNext.mk) | (refine XCall.ret hc ?_) | (refine XCall.ret ho1 ?_) | (refine XCall.ret ho2 ?_) | (refine XCall.ret ho3 ?_) | (refine XCall.ret ho4 ?_)); conv => whnf) | ((with_reducible apply XBr.mk') <;> (intro h; conv => whnf)) | fail
          all_goals first | exact ⟨.low rfl⟩ | (exfalso; simp_all; done)
        · rw [if_neg h3]
          rw [Bool.not_eq_false] at h3
          have h4 := h3
          unfold chanceB at h4
          rw [Bool.and_eq_true, inZ_iff, inZ_iff] at h4
          have hg := refGross_c b (moB b k) a sp st q3 (by omega) hmo.1 hmo.2.1 (by omega) (by omega) (by omega) (by omega) (by omega) (by omega)
          have hgb := grossR_le (room := b.room) (g := (moB b k).g) (a := a) (sp := sp) (st := st) (by omega) (by omega)
          generalize grossR b.room (moB b k).g a sp st = z at hg hgb
          unfold chanceB at h3
          rw [Bool.and_eq_true] at h3
          rw [h3.1] at ho3
          rw [h3.2] at ho4
          refine Comp.body (T := tab) (res := [.tmp 8, .tmp 9]) tab_ok [] Try.func39 rfl (by kernel_rfl) Try.ntmps39 rfl (by simp only [List.length_cons, List.length_nil]; decide) (by simp only [lowL, bedL, AV.low]; rfl) ?_; conv => whnf
          repeat' first | ((first | (with_reducible apply XBr.tt) | (with_reducible apply XBr.ff)); conv => whnf) | (with_reducible apply XBr.not) | ((with_reducible apply XBr.dec) <;> (intro h; first | (exfalso; omega) | ((try simp only [List.length_map] at h); first | (exfalso; omega) | (conv => whnf)))) | ((with_reducible apply XBr.bne) <;> (intro h; first | (exfalso; omega) | (conv => whnf))) | ((first | (with_reducible refine XInt.i64 (by omega) (by omega) ?_) | ((with_reducible refine XIx.nat ?_ ?_ ?_); omega; (intro _; rfl))); conv => whnf) | (with_reducible apply XAnd.mk) | ((first | (with_reducible apply Chk.go) | (with_reducible apply ChkA.go) | (with_reducible apply ChkF.go) | (with_reducible apply ChkB.go)); conv => whnf) | (exact XSame.mk rfl rfl) | (with_reducible exact trivial) | (apply Walk.drawN (id := 11) tab_ok mixed_ok [] [] (hsU _) [_, _, _, _, _, _, _, _, _] (by kernel_rfl) rfl) | ((first | (with_reducible apply XNext.mk) | (refine XCall.ret hc ?_) | (refine XCall.ret ho1 ?_) | (refine XCall.ret ho2 ?_) | (refine XCall.ret ho3 ?_) | (refine XCall.ret ho4 ?_) | (refine XCall.ret hg ?_) | (refine XInt.i64 (show _ ≤ z - (moB b k).r by omega) (show z - (moB b k).r ≤ _ by omega) ?_)); conv => whnf) | fail
          · have h' : z - (moB b k).r < 0 := h
            rw [if_pos h']; exact ⟨.low rfl⟩
          · have h' : ¬ z - (moB b k).r < 0 := h
            rw [if_neg h']; exact ⟨.low rfl⟩
  · rw [if_pos hb]
    generalize bedE b = e at hc hb
    refine Comp.body (T := tab) (res := [.tmp 8, .tmp 9]) tab_ok [] Try.func39 rfl (by kernel_rfl) Try.ntmps39 rfl (by simp only [List.length_cons, List.length_nil]; decide) (by simp only [lowL, bedL, AV.low]; rfl) ?_; conv => whnf
    repeat' first | ((with_reducible apply XBr.bne) <;> (intro h; first | (exfalso; omega) | (conv => whnf))) | ((refine XCall.ret hc ?_); conv => whnf) | fail
    exact ⟨.low rfl⟩
def beforeA (b : Bd) (m k : Int) : AV :=
  if bedE b ≠ 0 then .tup [.sl true [], .int .i64 (bedE b)]
  else if inZ m 0 ((b.months.length : Int) - 1) = false then .tup [.sl true [], .int .i64 1]
  else if inZ k 0 b.room = false then .tup [.sl true [], .int .i64 3]
  else .tup [slA (lstF (befF b m.toNat k.toNat) (b.room + 1).toNat), .int .i64 0]
theorem before_all_c (b : Bd) (m k : Int) (hm : b.months.length ≤ 100000) (hs : b.surveys.length ≤ 100000) : Comp Try.prog 40 [bedA b, .int .i64 m, .int .i64 k] (beforeA b m k) := by
  unfold beforeA
  by_cases hb : bedE b = 0
  · have ok := (bedE_iff b).1 hb
    have ho := bOpened_c b ok
    have hmn := bMonth_c b m hm
    have ham := bedAmount_c b k
    rw [if_neg (fun h => h hb)]
    by_cases h1 : inZ m 0 ((b.months.length : Int) - 1) = false
    · rw [h1] at hmn
      rw [if_pos h1]
      refine Comp.body (T := tab) (res := [.tmp 6, .tmp 7]) tab_ok [] Try.func40 rfl (by kernel_rfl) Try.ntmps40 rfl (by simp only [List.length_cons, List.length_nil]; decide) (by simp only [lowL, bedL, AV.low]; rfl) ?_; conv => whnf
      repeat' first | ((with_reducible apply XBr.ff); conv => whnf) | (with_reducible apply XBr.not) | ((with_reducible apply XBr.bne) <;> (intro h; first | (exfalso; omega) | (conv => whnf))) | ((first | (refine XCall.ret ho ?_) | (refine XCall.ret hmn ?_)); conv => whnf) | fail
      exact ⟨.low rfl⟩
    · rw [if_neg h1]
      rw [Bool.not_eq_false] at h1
      by_cases h2 : inZ k 0 b.room = false
      · rw [h1] at hmn
        rw [h2] at ham
        rw [if_pos h2]
        refine Comp.body (T := tab) (res := [.tmp 6, .tmp 7]) tab_ok [] Try.func40 rfl (by kernel_rfl) Try.ntmps40 rfl (by simp only [List.length_cons, List.length_nil]; decide) (by simp only [lowL, bedL, AV.low]; rfl) ?_; conv => whnf
        repeat' first | ((first | (with_reducible apply XBr.tt) | (with_reducible apply XBr.ff)); conv => whnf) | (with_reducible apply XBr.not) | ((with_reducible apply XBr.bne) <;> (intro h; first | (exfalso; omega) | (conv => whnf))) | (with_reducible apply XAnd.mk) | ((first | (with_reducible apply Chk.go) | (with_reducible apply ChkA.go) | (with_reducible apply ChkF.go) | (with_reducible apply ChkB.go)); conv => whnf) | (exact XSame.mk rfl rfl) | (with_reducible exact trivial) | (apply Walk.drawN (id := 6) tab_ok mixed_ok [] [] (hsU _) [_, _, _, _, _, _, _, _] (by kernel_rfl) rfl) | ((first | (with_reducible apply XNext.mk) | (refine XCall.ret ho ?_) | (refine XCall.ret hmn ?_) | (refine XCall.ret ham ?_)); conv => whnf) | fail
        exact ⟨.low rfl⟩
      · rw [if_neg h2]
        rw [Bool.not_eq_false] at h2
        obtain ⟨q1, q2⟩ := inZ_iff.1 h1
        obtain ⟨q3, q4⟩ := inZ_iff.1 h2
        obtain ⟨mm, rfl⟩ : ∃ mm : Nat, m = mm := ⟨m.toNat, by omega⟩
        obtain ⟨kk, rfl⟩ : ∃ kk : Nat, k = kk := ⟨k.toNat, by omega⟩
        exact before_c b ok mm kk (by omega) (by omega)
  · have ho := bOpenedE_c b hm hs hb
    rw [if_pos hb]
    generalize bedE b = e at ho hb
    refine Comp.body (T := tab) (res := [.tmp 6, .tmp 7]) tab_ok [] Try.func40 rfl (by kernel_rfl) Try.ntmps40 rfl (by simp only [List.length_cons, List.length_nil]; decide) (by simp only [lowL, bedL, AV.low]; rfl) ?_; conv => whnf
    repeat' first | ((with_reducible apply XBr.bne) <;> (intro h; first | (exfalso; omega) | (conv => whnf))) | ((refine XCall.ret ho ?_); conv => whnf) | fail
    exact ⟨.low rfl⟩
theorem XIx.vecV {W : Nat} {F : Nat → AV} {n : Int} {k : AV → Prop} (i : Nat) (hn : n = i) (h2 : i < W) (h1 : (F i).cells = [F i]) (h : k (.pim [F i])) : XIx (vecF W F) n 1 k := by
  subst hn
  have e : nth (vecF W F) (i : Int) = F i := by
    unfold nth
    rw [Int.toNat_natCast]; exact vecF_get _ h2
  refine ⟨by omega, by rw [vecF_len]; omega, by rw [e, h1]; rfl, ?_⟩
  rw [e, h1]; exact h
def oneB (b : Bd) (nl : Bool) (m : Nat) : Bd := { b with nlm := nl, nls := b.surveys.isEmpty, months := [moB b m] }
theorem oneB_ok {b : Bd} (ok : BedOk b) (nl : Bool) {m : Nat} (hm : m < b.months.length) : BedOk (oneB b nl m) :=
  ⟨ok.r1, ok.r2, show 1 ≤ ([moB b m]).length by simp, show ([moB b m]).length ≤ 10 by simp, ok.f1, ok.f2, ok.u1, ok.u2, fun x hx => by
    have : x = moB b m := by simpa [oneB] using hx
    rw [this]; exact ok.mo' hm⟩
set_option maxHeartbeats 2000000 in
theorem bedMonths_c (b : Bd) (month amount : Int) (c : Int × Int) : Comp Try.prog 5 [bedA b, .int .i64 month, .int .i64 amount, prA c] (.bool true) := by
  have hgr := great04_c b
  have e1 : ((b.months.map moA).length : Int) = b.months.length := by rw [List.length_map]
  cases hg : great04 b
  case true =>
    refine Comp.body (T := tab) (res := [.tmp 8]) tab_ok [] Try.func5 rfl (by kernel_rfl) Try.ntmps5 rfl (by simp only [List.length_cons, List.length_nil]; decide) (by simp only [lowL, bedL, AV.low]; rfl) ?_; conv => whnf
    repeat' first | ((first | (with_reducible apply XBr.tt) | ((refine XCall.ret hgr ?_); rw [hg]) | (refine XCall.ret awake04_c ?_)); conv => whnf) | fail
    exact ⟨.low rfl⟩
  obtain ⟨g1, g2⟩ := great_iff.1 hg
  have how := own04_c b (by omega) (by omega)
  have hth := theirs04_c b (by omega) (by omega)
  have hck := refCheck04_c (thB b) (show b.months.length ≤ 100000 by omega) (show b.surveys.length ≤ 100000 by omega)
  change Comp Try.prog _ _ (.int .i64 (bedE b)) at hck
  have hpk := bedCheck_c (ownB b) (show b.months.length ≤ 100000 by omega) (show b.surveys.length ≤ 100000 by omega)
  change Comp Try.prog _ _ (.int .i64 (bedE b)) at hpk
  have hle := leaves_all_c (ownB b) month amount c.1 c.2 (show b.months.length ≤ 100000 by omega) (show b.surveys.length ≤ 100000 by omega)
  change Comp Try.prog _ _ (leaveA b month amount c.1 c.2) at hle
  have hlr := refLeaves_c (thB b) month amount c.1 c.2 (show b.months.length ≤ 100000 by omega) (show b.surveys.length ≤ 100000 by omega)
  change Comp Try.prog _ _ (leaveA b month amount c.1 c.2) at hlr
  obtain ⟨lv, le, hlv⟩ := leaveA_tup b month amount c.1 c.2
  rw [hlv] at hle hlr
  have hbe := before_all_c (ownB b) month amount (show b.months.length ≤ 100000 by omega) (show b.surveys.length ≤ 100000 by omega)
  change Comp Try.prog _ _ (beforeA b month amount) at hbe
  have hsa := same04_c b (by omega) (by omega)
  have heq0 : Comp Try.prog 33 [.sl true (ints []), .sl true (ints [])] (.bool true) := eq_int true true [] [] (by simp)
  unfold beforeA at hbe
  by_cases hb : bedE b = 0
  · have ok := (bedE_iff b).1 hb
    rw [if_neg (fun h => h hb)] at hbe
    rw [hb] at hck hpk
    by_cases h1 : inZ month 0 ((b.months.length : Int) - 1) = false
    · rw [if_pos h1] at hbe
      have h1' : ¬ (0 ≤ month ∧ month ≤ (b.months.length : Int) - 1) := fun h => by rw [inZ_iff.2 h] at h1; cases h1
      refine Comp.body (T := tab) (res := [.tmp 8]) tab_ok [] Try.func5 rfl (by kernel_rfl) Try.ntmps5 rfl (by simp only [List.length_cons, List.length_nil]; decide) (by simp only [lowL, bedL, AV.low]; rfl) ?_; conv => whnf
      repeat' first | ((first | (with_reducible apply XBr.ff) | ((refine XCall.ret hgr ?_); rw [hg])); conv => whnf) | fail
      refine Walk.place (Walk.place ?_)
      apply Walk.drawX tab_ok mixed_ok [] [4, 5, 6, 7] (fun fl => match fl with
        | [a, b', x, y] => [(bif a then .cells (bif x then bedC (ownB b) else bzero) else .free), (bif b' then .cells (bif y then bedC (thB b) else bzero) else .free)]
        | _ => []) [_, _, _, _, .ptr 0 0, .ptr 1 0, _, _] (by kernel_rfl) rfl
      · skip
        repeat' first | (with_reducible apply XAnd.mk) | ((first | (with_reducible apply Chk.go) | (with_reducible apply ChkA.go)); conv => whnf) | (exact XSame.mk rfl rfl) | (with_reducible exact trivial) | ((first | (refine XCall.ret how ?_) | (refine XCall.ret hth ?_)); conv => whnf) | (first | ((refine XFree.at 0 rfl ?_); (conv => whnf); exact XSame.mk rfl rfl) | ((refine XFree.at 1 rfl ?_); (conv => whnf); exact XSame.mk rfl rfl)) | fail
      · skip
        repeat' first | (with_reducible apply XAnd.mk) | ((first | (with_reducible apply Chk.go) | (with_reducible apply ChkF.go) | (with_reducible apply ChkB.go)); conv => whnf) | (exact XSame.mk rfl rfl) | (with_reducible exact trivial) | ((first | (refine XCall.ret how ?_) | (refine XCall.ret hth ?_)); conv => whnf) | (first | ((refine XFree.at 0 rfl ?_); (conv => whnf); exact XSame.mk rfl rfl) | ((refine XFree.at 1 rfl ?_); (conv => whnf); exact XSame.mk rfl rfl)) | fail
      conv => whnf
      repeat' first | ((first | (with_reducible apply XBr.tt) | (with_reducible apply XBr.ff)); conv => whnf) | ((with_reducible apply XBr.dec) <;> (intro h; first | (exfalso; omega) | ((try simp only [List.length_map] at h); first | (exfalso; omega) | (conv => whnf)))) | ((with_reducible apply XBr.beq) <;> (intro h; first | (exfalso; omega) | (conv => whnf))) | ((with_reducible apply XBr.bne) <;> (intro h; first | (exfalso; omega) | (conv => whnf))) | ((first | (refine XCall.ret hck ?_) | (refine XCall.ret hpk ?_) | (refine XCall.ret hle ?_) | (refine XCall.ret hlr ?_) | (refine XCall.ret hbe ?_) | (refine XCall.ret hsa ?_) | (refine XCall.ret heq0 ?_) | (refine XCall.ret awake04_c ?_)); conv => whnf) | fail
      all_goals first | exact ⟨.low rfl⟩ | (exfalso; omega)
    · rw [if_neg h1] at hbe
      rw [Bool.not_eq_false, inZ_iff] at h1
      by_cases h2 : inZ amount 0 b.room = false
      · rw [if_pos h2] at hbe
        have h2' : ¬ (0 ≤ amount ∧ amount ≤ b.room) := fun h => by rw [inZ_iff.2 h] at h2; cases h2
        refine Comp.body (T := tab) (res := [.tmp 8]) tab_ok [] Try.func5 rfl (by kernel_rfl) Try.ntmps5 rfl (by simp only [List.length_cons, List.length_nil]; decide) (by simp only [lowL, bedL, AV.low]; rfl) ?_; conv => whnf
        repeat' first | ((first | (with_reducible apply XBr.ff) | ((refine XCall.ret hgr ?_); rw [hg])); conv => whnf) | fail
        refine Walk.place (Walk.place ?_)
        apply Walk.drawX tab_ok mixed_ok [] [4, 5, 6, 7] (fun fl => match fl with
          | [a, b', x, y] => [(bif a then .cells (bif x then bedC (ownB b) else bzero) else .free), (bif b' then .cells (bif y then bedC (thB b) else bzero) else .free)]
          | _ => []) [_, _, _, _, .ptr 0 0, .ptr 1 0, _, _] (by kernel_rfl) rfl
        · skip
          repeat' first | (with_reducible apply XAnd.mk) | ((first | (with_reducible apply Chk.go) | (with_reducible apply ChkA.go)); conv => whnf) | (exact XSame.mk rfl rfl) | (with_reducible exact trivial) | ((first | (refine XCall.ret how ?_) | (refine XCall.ret hth ?_)); conv => whnf) | (first | ((refine XFree.at 0 rfl ?_); (conv => whnf); exact XSame.mk rfl rfl) | ((refine XFree.at 1 rfl ?_); (conv => whnf); exact XSame.mk rfl rfl)) | fail
        · skip
          repeat' first | (with_reducible apply XAnd.mk) | ((first | (with_reducible apply Chk.go) | (with_reducible apply ChkF.go) | (with_reducible apply ChkB.go)); conv => whnf) | (exact XSame.mk rfl rfl) | (with_reducible exact trivial) | ((first | (refine XCall.ret how ?_) | (refine XCall.ret hth ?_)); conv => whnf) | (first | ((refine XFree.at 0 rfl ?_); (conv => whnf); exact XSame.mk rfl rfl) | ((refine XFree.at 1 rfl ?_); (conv => whnf); exact XSame.mk rfl rfl)) | fail
        conv => whnf
        repeat' first | ((first | (with_reducible apply XBr.tt) | (with_reducible apply XBr.ff)); conv => whnf) | ((with_reducible apply XBr.dec) <;> (intro h; first | (exfalso; omega) | ((try simp only [List.length_map] at h); first | (exfalso; omega) | (conv => whnf)))) | ((with_reducible apply XBr.beq) <;> (intro h; first | (exfalso; omega) | (conv => whnf))) | ((with_reducible apply XBr.bne) <;> (intro h; first | (exfalso; omega) | (conv => whnf))) | ((first | (refine XCall.ret hck ?_) | (refine XCall.ret hpk ?_) | (refine XCall.ret hle ?_) | (refine XCall.ret hlr ?_) | (refine XCall.ret hbe ?_) | (refine XCall.ret hsa ?_) | (refine XCall.ret heq0 ?_) | (refine XCall.ret awake04_c ?_)); conv => whnf) | fail
        all_goals first | exact ⟨.low rfl⟩ | (exfalso; omega)
      · rw [if_neg h2] at hbe
        rw [Bool.not_eq_false, inZ_iff] at h2
        obtain ⟨m, rfl⟩ : ∃ m : Nat, month = m := ⟨month.toNat, by omega⟩
        obtain ⟨k, rfl⟩ : ∃ k : Nat, amount = k := ⟨amount.toNat, by omega⟩
        rw [Int.toNat_natCast, Int.toNat_natCast] at hbe
        have hnx := fun nl => next_c (oneB b nl m) (oneB_ok ok.toBedOk nl (by omega))
        have hsl : List.take ((m : Int) + 1 - (m : Int)).toNat (List.drop ((m : Int)).toNat (List.map moA (thB b).months)) = [moA (moB b m)] := by
          rw [show ((m : Int) + 1 - (m : Int)).toNat = 1 by omega, Int.toNat_natCast, ← List.map_drop]
          have hd : (thB b).months.drop m = moB b m :: b.months.drop (m + 1) := drop_next (xs := b.months) (by omega)
          rw [hd]; rfl
        refine Comp.body (T := tab) (res := [.tmp 8]) tab_ok [] Try.func5 rfl (by kernel_rfl) Try.ntmps5 rfl (by simp only [List.length_cons, List.length_nil]; decide) (by simp only [lowL, bedL, AV.low]; rfl) ?_; conv => whnf
        repeat' first | ((first | (with_reducible apply XBr.ff) | ((refine XCall.ret hgr ?_); rw [hg])); conv => whnf) | fail
        refine Walk.place (Walk.place ?_)
        apply Walk.drawX tab_ok mixed_ok [] [4, 5, 6, 7] (fun fl => match fl with
          | [a, b', x, y] => [(bif a then .cells (bif x then bedC (ownB b) else bzero) else .free), (bif b' then .cells (bif y then bedC (thB b) else bzero) else .free)]
          | _ => []) [_, _, _, _, .ptr 0 0, .ptr 1 0, _, _] (by kernel_rfl) rfl
        · skip
          repeat' first | (with_reducible apply XAnd.mk) | ((first | (with_reducible apply Chk.go) | (with_reducible apply ChkA.go)); conv => whnf) | (exact XSame.mk rfl rfl) | (with_reducible exact trivial) | ((first | (refine XCall.ret how ?_) | (refine XCall.ret hth ?_)); conv => whnf) | (first | ((refine XFree.at 0 rfl ?_); (conv => whnf); exact XSame.mk rfl rfl) | ((refine XFree.at 1 rfl ?_); (conv => whnf); exact XSame.mk rfl rfl)) | fail
        · skip
          repeat' first | (with_reducible apply XAnd.mk) | ((first | (with_reducible apply Chk.go) | (with_reducible apply ChkF.go) | (with_reducible apply ChkB.go)); conv => whnf) | (exact XSame.mk rfl rfl) | (with_reducible exact trivial) | ((first | (refine XCall.ret how ?_) | (refine XCall.ret hth ?_)); conv => whnf) | (first | ((refine XFree.at 0 rfl ?_); (conv => whnf); exact XSame.mk rfl rfl) | ((refine XFree.at 1 rfl ?_); (conv => whnf); exact XSame.mk rfl rfl)) | fail
        conv => whnf
        repeat' first | ((with_reducible apply XBr.ff); conv => whnf) | ((with_reducible apply XBr.dec) <;> (intro h; first | (exfalso; omega) | ((try simp only [List.length_map] at h); first | (exfalso; omega) | (conv => whnf)))) | ((with_reducible apply XBr.bne) <;> (intro h; first | (exfalso; omega) | (conv => whnf))) | ((first | (with_reducible refine XInt.i64 (by omega) (by omega) ?_) | (refine XCall.ret hck ?_) | (refine XCall.ret hpk ?_) | (refine XCall.ret hle ?_) | (refine XCall.ret hlr ?_) | (refine XCall.ret hbe ?_)); conv => whnf) | fail
        refine XHold.mk ⟨by omega, by omega, by rw [List.length_map]; show _ ≤ (b.months.length : Int); omega, .inr (wideMo _)⟩ ?_
        conv => whnf
        skip
        rw [hsl]
        refine XCall.ret (hnx _) ?_
        conv => whnf
        refine XIx.vecV 0 rfl (show 0 < ([moB b m]).length by simp) rfl ?_
        conv => whnf
        have hvl : ((vecF ((oneB b b.months.isEmpty m).room + 1).toNat (nxRow (oneB b b.months.isEmpty m) 0)).length : Int) = b.room + 1 := by
          rw [vecF_len]
          show (((b.room + 1).toNat : Nat) : Int) = b.room + 1
          omega
        skip
        refine Walk.nilgr 17 3 rfl ?_
        refine Walk.loopK tab_ok [] [(2, _), (4, _), (8, _), (9, _), (11, _), (13, _), (16, _), (74, _), (75, _)] ⟨rfl, rfl, rfl, rfl, rfl, rfl, rfl, rfl, rfl, trivial⟩ (fun n : Nat => (n : Int) ≤ b.room + 1) (fun n => [(17, .gr 2 (lstF (befF b m k) n).length), (76, natA n)]) (fun n => [.cells (bedC (ownB b)), .cells (bedC (oneB b b.months.isEmpty m)), .grow 3 (lstF (befF b m k) n).isEmpty (ints (lstF (befF b m k) n))]) (fun n => (b.room + 1).toNat - n) 0 (by have := ok.r1; omega) rfl ⟨rfl, rfl, trivial⟩ ?_
        intro n hn
        have hs := lstF_succ (befF b m k) n
        have hl := lstF_len (befF b m k) n
        have hl2 : (ints (lstF (befF b m k) n)).length = (lstF (befF b m k) n).length := ints_len _
        have r2 := ok.r2
        conv => whnf
        by_cases hlt : (n : Int) < b.room + 1
        · have hfb : nxF (oneB b b.months.isEmpty m) 0 n k = befF b m k n := rfl
          generalize hq : befF b m k n = q at hs hfb
          repeat' first | ((with_reducible apply XBr.dec) <;> (intro h; first | (exfalso; omega) | ((try simp only [List.length_map] at h); first | (exfalso; omega) | (conv => whnf)))) | ((with_reducible refine XInt.i64 (by omega) (by omega) ?_); conv => whnf) | ((with_reducible refine XHold.mk ?_ ?_); (first | omega | rfl | decide | exact ⟨rfl, by decide, rfl⟩ | exact wideI _ | exact widePr _ | exact wideSk _ | (unfold Room; constructor <;> ((try simp) <;> omega)) | exact ⟨rfl, by simp only [List.length_map], by unfold Room; constructor <;> ((try simp) <;> omega)⟩ | exact ⟨by omega, by omega, by unfold Room; constructor <;> ((try simp) <;> omega)⟩); conv => whnf) | ((first | (refine XIx.vecV n rfl (show n < (b.room + 1).toNat by omega) rfl ?_) | ((refine XIx.bls k rfl (show k < (b.room + 1).toNat by omega) ?_); rw [hfb])); conv => whnf) | ((with_reducible apply XBr.mk') <;> (intro h; conv => whnf)) | fail
          · subst h
            rw [if_pos rfl] at hs
            refine XAgain.go (n + 1) (by omega) (by omega) ?_ ⟨rfl, rfl, rfl, rfl, rfl, rfl, rfl, rfl, rfl, ?_, rfl, trivial⟩
            · rw [hs]
              show [_, _, Blk.grow _ (lstF (befF b m k) n ++ [(n : Int)]).isEmpty ((lstF (befF b m k) n ++ [(n : Int)]).map (AV.int .i64))] = _
              rw [isEmpty_app, List.map_append]; rfl
            · show some (AV.gr 2 ((lstF (befF b m k) n).length + 1)) = _
              rw [hs, List.length_append]; rfl
          · subst h
            rw [if_neg (by simp)] at hs
            exact XAgain.go (n + 1) (by omega) (by omega) (by rw [hs]) ⟨rfl, rfl, rfl, rfl, rfl, rfl, rfl, rfl, rfl, by rw [hs]; rfl, rfl, trivial⟩
        · obtain rfl : n = (b.room + 1).toNat := by omega
          generalize lstF (befF b m k) (b.room + 1).toNat = ls at hl hl2
          have heq := eq_int ls.isEmpty ls.isEmpty ls ls (by omega)
          rw [beq_self_eq_true] at heq
          repeat' first | ((with_reducible apply XBr.tt); conv => whnf) | ((with_reducible apply XBr.dec) <;> (intro h; first | (exfalso; omega) | ((try simp only [List.length_map] at h); first | (exfalso; omega) | (conv => whnf)))) | ((with_reducible apply XBr.beq) <;> (intro h; first | (exfalso; omega) | (conv => whnf))) | ((first | (refine XCall.lend heq (.cons (.low (slA_low ls)) (.cons (Froz.grow rfl hl2 (lowI _)) .nil)) rfl ?_) | (refine XCall.ret hsa ?_) | (refine XCall.ret awake04_c ?_)); conv => whnf) | fail
          all_goals first | exact ⟨.low rfl⟩ | (exfalso; omega)
  · rw [if_pos hb] at hbe
    generalize bedE b = E at hb hck hpk hbe
    refine Comp.body (T := tab) (res := [.tmp 8]) tab_ok [] Try.func5 rfl (by kernel_rfl) Try.ntmps5 rfl (by simp only [List.length_cons, List.length_nil]; decide) (by simp only [lowL, bedL, AV.low]; rfl) ?_; conv => whnf
    repeat' first | ((first | (with_reducible apply XBr.ff) | ((refine XCall.ret hgr ?_); rw [hg])); conv => whnf) | fail
    refine Walk.place (Walk.place ?_)
    apply Walk.drawX tab_ok mixed_ok [] [4, 5, 6, 7] (fun fl => match fl with
      | [a, b', x, y] => [(bif a then .cells (bif x then bedC (ownB b) else bzero) else .free), (bif b' then .cells (bif y then bedC (thB b) else bzero) else .free)]
      | _ => []) [_, _, _, _, .ptr 0 0, .ptr 1 0, _, _] (by kernel_rfl) rfl
    · skip
      repeat' first | (with_reducible apply XAnd.mk) | ((first | (with_reducible apply Chk.go) | (with_reducible apply ChkA.go)); conv => whnf) | (exact XSame.mk rfl rfl) | (with_reducible exact trivial) | ((first | (refine XCall.ret how ?_) | (refine XCall.ret hth ?_)); conv => whnf) | (first | ((refine XFree.at 0 rfl ?_); (conv => whnf); exact XSame.mk rfl rfl) | ((refine XFree.at 1 rfl ?_); (conv => whnf); exact XSame.mk rfl rfl)) | fail
    · skip
      repeat' first | (with_reducible apply XAnd.mk) | ((first | (with_reducible apply Chk.go) | (with_reducible apply ChkF.go) | (with_reducible apply ChkB.go)); conv => whnf) | (exact XSame.mk rfl rfl) | (with_reducible exact trivial) | ((first | (refine XCall.ret how ?_) | (refine XCall.ret hth ?_)); conv => whnf) | (first | ((refine XFree.at 0 rfl ?_); (conv => whnf); exact XSame.mk rfl rfl) | ((refine XFree.at 1 rfl ?_); (conv => whnf); exact XSame.mk rfl rfl)) | fail
    conv => whnf
    repeat' first | ((first | (with_reducible apply XBr.tt) | (with_reducible apply XBr.ff)); conv => whnf) | ((with_reducible apply XBr.beq) <;> (intro h; first | (exfalso; omega) | (conv => whnf))) | ((with_reducible apply XBr.bne) <;> (intro h; first | (exfalso; omega) | (conv => whnf))) | ((first | (refine XCall.ret hck ?_) | (refine XCall.ret hpk ?_) | (refine XCall.ret hle ?_) | (refine XCall.ret hlr ?_) | (refine XCall.ret hbe ?_) | (refine XCall.ret hsa ?_) | (refine XCall.ret heq0 ?_) | (refine XCall.ret awake04_c ?_)); conv => whnf) | fail
    all_goals first | exact ⟨.low rfl⟩ | (exfalso; omega)
end GA
end
