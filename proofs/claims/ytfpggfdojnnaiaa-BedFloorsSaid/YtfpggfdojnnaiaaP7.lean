/- Part 7 of a proof: D46, D42, D37, D43, D15, D38, D47. -/
import Derived.Test.YtfpggfdojnnaiaaP6
section
namespace GA
open Go Go.RowKit Go.Proofs
set_option pp.deepTerms true
set_option maxRecDepth 8000
set_option linter.unusedVariables false
set_option linter.unusedSimpArgs false

theorem mnP_at {F : Nat → Int} {lo : Nat} : ∀ c, lo < c → (∀ q, lo ≤ q → q < c → 0 ≤ F q) → ∃ q, lo ≤ q ∧ q < c ∧ mnP F lo c = F q
  | 0, h, _ => by omega
  | c + 1, h, hF => by
    rw [mnP_succ (by omega)]
    unfold mnS
    split
    · exact ⟨c, by omega, by omega, rfl⟩
    · rename_i hn
      by_cases hlo : lo = c
      · subst hlo
        rw [mnP_nil] at hn; omega
      · obtain ⟨q, h1, h2, h3⟩ := mnP_at c (by omega) fun q a b => hF q a (by omega)
        exact ⟨q, h1, by omega, h3⟩
def valC (b : Bd) (l : List Int) (m k n : Nat) (x y : Int) : Int := rkR b l m n + smF b l k (grC b m n x y - rkR b l m n).toNat
structure MI (b : Bd) (l : List Int) (m k n : Nat) (D : Int → Int → Prop) (first : Bool) (v : Int) : Prop where
  a : first = true → ∀ x y, InC b m x y → ¬ D x y
  c : first = false → (∀ x y, InC b m x y → D x y → v ≤ valC b l m k n x y) ∧ ∃ x y, InC b m x y ∧ v = valC b l m k n x y
theorem MI.to {b : Bd} {l : List Int} {m k n : Nat} {D D' : Int → Int → Prop} {first : Bool} {v : Int} (h : MI b l m k n D first v) (hd : ∀ x y, InC b m x y → (D' x y ↔ D x y)) : MI b l m k n D' first v :=
  ⟨fun h1 x y h2 h3 => h.a h1 x y h2 ((hd x y h2).1 h3), fun h1 => ⟨fun x y h2 h3 => (h.c h1).1 x y h2 ((hd x y h2).1 h3), (h.c h1).2⟩⟩
theorem MI.put {b : Bd} {l : List Int} {m k n : Nat} {D D' : Int → Int → Prop} {first : Bool} {v sp st : Int} (h : MI b l m k n D first v) (hin : InC b m sp st) (hd : ∀ x y, InC b m x y → (D' x y ↔ D x y ∨ (x = sp ∧ y = st))) (hv : first = true ∨ valC b l m k n sp st < v) : MI b l m k n D' false (valC b l m k n sp st) := by
  refine ⟨fun h1 => (by cases h1), fun _ => ⟨fun x y h2 h3 => ?_, sp, st, hin, rfl⟩⟩
  rcases (hd x y h2).1 h3 with h4 | ⟨rfl, rfl⟩
  · cases first with
    | true => exact absurd h4 (h.a rfl x y h2)
    | false =>
      have := (h.c rfl).1 x y h2 h4
      rcases hv with hv | hv
      · cases hv
      · omega
  · exact Int.le_refl _
theorem MI.skip {b : Bd} {l : List Int} {m k n : Nat} {D D' : Int → Int → Prop} {v sp st : Int} (h : MI b l m k n D false v) (hd : ∀ x y, InC b m x y → (D' x y ↔ D x y ∨ (x = sp ∧ y = st))) (hv : ¬ valC b l m k n sp st < v) : MI b l m k n D' false v := by
  refine ⟨fun h1 => (by cases h1), fun _ => ⟨fun x y h2 h3 => ?_, (h.c rfl).2⟩⟩
  rcases (hd x y h2).1 h3 with h4 | ⟨rfl, rfl⟩
  · exact (h.c rfl).1 x y h2 h4
  · omega
theorem MI.all {b : Bd} (ok : BedOk b) {l : List Int} (hl : ∀ j, j ≤ b.months.length → 0 ≤ l.getD j default ∧ l.getD j default ≤ b.room) {m k n : Nat} (hm : b.months.length = m + (k + 1)) (hn : l.getD m default ≤ n) (hr : (n : Int) ≤ b.room) {D : Int → Int → Prop} {first : Bool} {v : Int} (h : MI b l m k n D first v) (hd : ∀ x y, InC b m x y → D x y) : v = smF b l (k + 1) n := by
  have hmM : m < b.months.length := by omega
  have hin := inC_worst ok hmM
  cases first with
  | true => exact absurd (hd _ _ hin) (h.a rfl _ _ hin)
  | false =>
    obtain ⟨h1, x0, y0, h2, h3⟩ := h.c rfl
    have hmo := ok.mo' hmM
    have hsb := smF_b ok hl k (by omega)
    have hrk := rkR_b ok hl (n := n) hmM
    have hgb := gbR_b ok (n := n) hmM
    have hgx := fun x y (q : InC b m x y) => grC_b ok hmM (n := n) q
    have hhi : hiR b m n + (moB b m).r = gbR b m n := by unfold hiR gbR; omega
    have hb := mnP_b (F := smF b l k) (B := 120 * (k : Int)) (by omega) (lo := (lieR b m n - rkR b l m n).toNat) (gbR b m n - rkR b l m n + 1).toNat (by omega) fun q _ _ => hsb q
    obtain ⟨q0, q1, q2, q3⟩ := mnP_at (F := smF b l k) (lo := (lieR b m n - rkR b l m n).toNat) (gbR b m n - rkR b l m n + 1).toNat (by omega) fun q _ _ => (hsb q).1
    rw [smF, show b.months.length - (k + 1) = m by omega, if_pos ⟨hn, hr⟩]
    have hx0 := hgx x0 y0 h2
    have e1 := hb.2.2.2 (grC b m n x0 y0 - rkR b l m n).toNat (by omega) (by omega)
    obtain ⟨x, y, p1, p2, p3, p4, p5⟩ := boxR (room := b.room) (g := (moB b m).g) (a := n) (v := q0 + rkR b l m n) (show (moB b m).pl ≤ (moB b m).ph by omega) (show (moB b m).tl ≤ (moB b m).th by omega) (by show lieR b m n ≤ _; omega) (by show _ ≤ gbR b m n; omega)
    have e2 := h1 x y ⟨p1, p2, p3, p4⟩ (hd x y ⟨p1, p2, p3, p4⟩)
    have e3 : grC b m n x y = q0 + rkR b l m n := p5
    unfold valC at e2 h3
    rw [e3, show ((q0 : Int) + rkR b l m n - rkR b l m n).toNat = q0 by omega] at e2
    omega
theorem XGet.vecV {W : Nat} {R : Nat → AV} {n e : Nat} {k : List AV → Prop} (j : Nat) (he : e = j) (h1 : n = W) (h2 : j < W) (h : k (R j).cells) : XGet (vecF W R) n e k := by
  subst he; subst h1
  exact ⟨(vecF_len _ _).symm, h2, by rw [vecF_get _ h2]; exact h⟩
theorem XPut.vecV {W : Nat} {R : Nat → AV} {n e : Nat} {v : AV} {k : List AV → Prop} (j : Nat) (he : e = j) (h1 : n = W) (h2 : j < W) (h : k (vecF W (updV R j v))) : XPut (vecF W R) n e v k := by
  subst he; subst h1
  exact ⟨(vecF_len _ _).symm, h2, by rw [vecF_set]; exact h⟩
def smRow (b : Bd) (l : List Int) (m : Nat) : AV := .sl false (ivs (b.room + 1).toNat fun n => smF b l (b.months.length - m) n)
def smRows (b : Bd) (l : List Int) (j i : Nat) : AV := if b.months.length < i + j then smRow b l i else .sl true []
theorem smRows_low {n : Nat} (b : Bd) (l : List Int) (j i : Nat) : (smRows b l j i).low n = true := by
  unfold smRows; split
  · exact ivs_low _ _
  · rfl
def sumsA (b : Bd) (l : List Int) : AV := .sl false (vecF (b.months.length + 1) (smRow b l))
set_option maxHeartbeats 1000000 in
theorem sums_c (b : Bd) (ok : BedOk b) (nl : Bool) (l : List Int) (hl : l.length = b.months.length + 1) (hb : ∀ x ∈ l, 0 ≤ x ∧ x ≤ b.room) : Comp Try.prog 73 [bedA b, .sl nl (ints l)] (sumsA b l) := by
  have m1 := ok.m1
  have m2 := ok.m2
  have r1 := ok.r1
  have r2 := ok.r2
  have e1 : ((b.months.map moA).length : Int) = b.months.length := by rw [List.length_map]
  have e2 : ((ints l).length : Int) = b.months.length + 1 := by rw [ints_len]; omega
  have hlv : ∀ m, m ≤ b.months.length → 0 ≤ l.getD m default ∧ l.getD m default ≤ b.room := fun m hm => hb _ (getD_mem (by omega))
  have hsm := smF_b ok hlv
  have hrep : List.replicate (((b.months.map moA).length : Int) + 1).toNat (AV.sl true []) = vecF (b.months.length + 1) (smRows b l 0) := by
    rw [show (((b.months.map moA).length : Int) + 1).toNat = b.months.length + 1 by omega, ← vecF_replicate]
    exact vecF_congr fun i hi => by unfold smRows; rw [if_neg (by omega)]
  refine Comp.body (T := tab) (res := [.tmp 4]) tab_ok [] Try.func73 rfl (by kernel_rfl) Try.ntmps73 rfl (by simp only [List.length_cons, List.length_nil]; decide) (by simp only [lowL, bedL, AV.low, lowI]; rfl) ?_; conv => whnf
  repeat' first | ((with_reducible refine XInt.i64 (by omega) (by omega) ?_); conv => whnf) | ((with_reducible refine XHold.mk ?_ ?_); (first | omega | rfl | decide | exact ⟨rfl, by decide, rfl⟩ | exact wideI _ | exact widePr _ | exact wideSk _ | (unfold Room; constructor <;> ((try simp) <;> omega)) | exact ⟨rfl, by simp only [List.length_map], by unfold Room; constructor <;> ((try simp) <;> omega)⟩ | exact ⟨by omega, by omega, by unfold Room; constructor <;> ((try simp) <;> omega)⟩); conv => whnf) | fail
  refine Walk.loopGK tab_ok [] [(1, _), (2, _), (5, .gr 0 (b.months.length + 1))] ⟨rfl, rfl, by rw [show b.months.length + 1 = (((b.months.map moA).length : Int) + 1).toNat by omega]; rfl, trivial⟩ (fun j : Nat => j ≤ b.months.length + 1) (fun j => [(6, .int .i64 ((b.months.length : Int) - j))]) (fun j => [.grow 27 false (vecF (b.months.length + 1) (smRows b l j))]) (fun j => b.months.length + 1 - j) 0 (Nat.zero_le _) (by rw [← hrep]) ⟨congrArg (fun z => some (AV.int .i64 z)) (by omega), trivial⟩ ?_ (fun _ _ => (show (1 : Nat) ≤ 1 from Nat.le_refl 1)) ?_
  · intro q _
    refine ⟨fun z hz => ?_, fun z hz => ?_⟩
    · rw [List.mem_singleton] at hz; subst hz; exact vecF_low fun _ _ => smRows_low _ _ _ _
    · simp only [List.cons_append, List.nil_append, List.mem_cons, List.not_mem_nil, or_false] at hz
      rcases hz with rfl | rfl | rfl | rfl <;> first | rfl | exact lowBd b | exact lowI _
  intro j hj
  have hvl : (vecF (b.months.length + 1) (smRows b l j)).length = b.months.length + 1 := vecF_len _ _
  by_cases hjM : j ≤ b.months.length
  · obtain ⟨m, hm⟩ : ∃ m : Nat, m + j = b.months.length := ⟨b.months.length - j, by omega⟩
    have hm6 : (b.months.length : Int) - j = (m : Int) := by omega
    have hlm := hlv m (by omega)
    have hlmn : (((l.getD m default).toNat : Nat) : Int) = l.getD m default := by omega
    have hm6' : (b.months.length : Int) - (j + 1 : Nat) = (m : Int) - 1 := by omega
    rw [hm6]
    have hrow0 : List.replicate (b.room + 1).toNat (AV.int .i64 0) = ivs (b.room + 1).toNat fun q => if q < (l.getD m default).toNat then smF b l j q else 0 := by
      rw [ivs_rep]
      refine ivs_congr fun q hq => ?_
      split
      · rename_i h
        cases j with
        | zero => rfl
        | succ k => rw [smF, show b.months.length - (k + 1) = m by omega, if_neg (by omega)]
      · rfl
    conv => whnf
    repeat' first | ((with_reducible apply XBr.dec) <;> (intro h; first | (exfalso; omega) | ((try simp only [List.length_map] at h); first | (exfalso; omega) | (conv => whnf)))) | ((with_reducible refine XInt.i64 (by omega) (by omega) ?_); conv => whnf) | ((with_reducible refine XHold.mk ?_ ?_); (first | omega | rfl | decide | exact ⟨rfl, by decide, rfl⟩ | exact wideI _ | exact widePr _ | exact wideSk _ | (unfold Room; constructor <;> ((try simp) <;> omega)) | exact ⟨rfl, by simp only [List.length_map], by unfold Room; constructor <;> ((try simp) <;> omega)⟩ | exact ⟨by omega, by omega, by unfold Room; constructor <;> ((try simp) <;> omega)⟩); conv => whnf) | (((with_reducible refine XIx.nat ?_ ?_ ?_); omega; (intro _; rfl)); conv => whnf) | fail
    refine Walk.thenFreeze 7 1 (b.room + 1).toNat ?_
    refine Walk.loopGK tab_ok [] [(1, _), (2, _), (5, _), (6, _), (7, _)] ⟨rfl, rfl, rfl, rfl, rfl, trivial⟩ (fun n : Nat => (l.getD m default).toNat ≤ n ∧ (n : Int) ≤ b.room + 1 ∧ (j = 0 → n = (l.getD m default).toNat)) (fun n => [(8, natA n)]) (fun n => [.grow 27 false (vecF (b.months.length + 1) (smRows b l j)), .grow 3 false (ivs (b.room + 1).toNat fun q => if q < n then smF b l j q else 0)]) (fun n => (b.room + 1).toNat - n) (l.getD m default).toNat ⟨Nat.le_refl _, by omega, fun _ => rfl⟩ (by rw [← hrow0]) ⟨congrArg (fun z => some (AV.int .i64 z)) hlmn.symm, trivial⟩ ?_ (fun _ _ => (show (2 : Nat) ≤ 2 from Nat.le_refl 2)) ?_
    · intro q _
      refine ⟨fun z hz => ?_, fun z hz => ?_⟩
      · simp only [List.mem_cons, List.not_mem_nil, or_false] at hz
        rcases hz with rfl | rfl
        · exact vecF_low fun _ _ => smRows_low _ _ _ _
        · exact ivs_low _ _
      · simp only [List.cons_append, List.nil_append, List.mem_cons, List.not_mem_nil, or_false] at hz
        rcases hz with rfl | rfl | rfl | rfl | rfl | rfl <;> first | rfl | exact lowBd b | exact lowI _
    rintro n ⟨hn1, hn2, hn3⟩
    conv => whnf
    by_cases hgo : 0 < j ∧ (n : Int) ≤ b.room
    · obtain ⟨hj0, hnr⟩ := hgo
      obtain ⟨k, rfl⟩ : ∃ k, j = k + 1 := ⟨j - 1, by omega⟩
      have hmM : m < b.months.length := by omega
      have hmo := ok.mo' hmM
      have hrk := rakes04_c b ok nl l hl hb m n hmM hnr
      have hrb := rkR_b ok hlv (n := n) hmM
      have hgb := fun (sp st : Int) (q : InC b m sp st) => grC_b ok hmM (n := n) q
      have hgr := fun (sp st : Int) (q : InC b m sp st) => refGross_c b (moB b m) n sp st (by omega) (by omega) hmo.1 hmo.2.1 (by omega) (by omega) (by have := q.1; omega) (by have := q.2.1; omega) (by have := q.2.2.1; omega) (by have := q.2.2.2; omega)
      change ∀ (sp st : Int) (q : InC b m sp st), Comp Try.prog _ _ (.int .i64 (grC b m n sp st)) at hgr
      have hrow : smRows b l (k + 1) (m + 1) = .sl false (ivs (b.room + 1).toNat fun n => smF b l k n) := by
        unfold smRows smRow
        rw [if_pos (by omega), show b.months.length - (m + 1) = k by omega]
      have hall := fun (D : Int → Int → Prop) first v (h : MI b l m k n D first v) hd => h.all ok hlv (show b.months.length = m + (k + 1) by omega) (by omega) hnr hd
      repeat' first | ((with_reducible apply XBr.tt); conv => whnf) | ((with_reducible apply XBr.dec) <;> (intro h; first | (exfalso; omega) | ((try simp only [List.length_map] at h); first | (exfalso; omega) | (conv => whnf)))) | ((first | ((with_reducible refine XIx.nat ?_ ?_ ?_); omega; (intro _; rfl)) | (refine XCall.ret hrk ?_)); conv => whnf) | fail
      refine Walk.loopK tab_ok [] [(1, _), (2, _), (5, _), (6, _), (7, _), (8, _), (9, _), (10, _)] ⟨rfl, rfl, rfl, rfl, rfl, rfl, rfl, rfl, trivial⟩ (fun q : Int × Bool × Int => (moB b m).pl ≤ q.1 ∧ q.1 ≤ (moB b m).ph + 1 ∧ MI b l m k n (fun x _ => x < q.1) q.2.1 q.2.2) (fun q => [(11, .bool q.2.1), (12, .int .i64 q.1)]) (fun q => [.grow 27 false (vecF (b.months.length + 1) (smRows b l (k + 1))), .grow 3 false (ivs (b.room + 1).toNat (updV (fun q => if q < n then smF b l (k + 1) q else 0) n q.2.2)), .cells (moC (moB b m))]) (fun q => ((moB b m).ph + 1 - q.1).toNat) ((moB b m).pl, true, 0) ⟨Int.le_refl _, by dsimp only; omega, ⟨fun _ x y h1 h2 => absurd h1.1 (by dsimp only at h2; omega), fun h => (by cases h)⟩⟩ ?_ ⟨rfl, rfl, trivial⟩ ?_
      · show [_, Blk.grow _ false (ivs _ _), _] = [_, Blk.grow _ false (ivs _ _), _]
        refine congrArg (fun z => [_, Blk.grow _ false z, _]) (ivs_congr fun i _ => ?_)
        unfold updV
        split
        · rename_i h; rw [if_neg (by omega)]
        · rfl
      rintro ⟨sp, first, v⟩ ⟨h1, h2, hM⟩
      dsimp only at h1 h2 hM ⊢
      conv => whnf
      by_cases hlts : sp ≤ (moB b m).ph
      · skip
        repeat' first | ((with_reducible apply XBr.dec) <;> (intro h; first | (exfalso; omega) | ((try simp only [List.length_map] at h); first | (exfalso; omega) | (conv => whnf)))) | fail
        refine Walk.loopK tab_ok [] [(1, _), (2, _), (5, _), (6, _), (7, _), (8, _), (9, _), (10, _), (12, _)] ⟨rfl, rfl, rfl, rfl, rfl, rfl, rfl, rfl, rfl, trivial⟩ (fun q : Int × Bool × Int => (moB b m).tl ≤ q.1 ∧ q.1 ≤ (moB b m).th + 1 ∧ MI b l m k n (fun x y => x < sp ∨ (x = sp ∧ y < q.1)) q.2.1 q.2.2) (fun q => [(11, .bool q.2.1), (13, .int .i64 q.1)]) (fun q => [.grow 27 false (vecF (b.months.length + 1) (smRows b l (k + 1))), .grow 3 false (ivs (b.room + 1).toNat (updV (fun q => if q < n then smF b l (k + 1) q else 0) n q.2.2)), .cells (moC (moB b m))]) (fun q => ((moB b m).th + 1 - q.1).toNat) ((moB b m).tl, first, v) ⟨Int.le_refl _, by dsimp only; omega, hM.to fun x y h => by have := h.2.2.1; dsimp only; omega⟩ rfl ⟨rfl, rfl, trivial⟩ ?_
        rintro ⟨st, first, v⟩ ⟨t1, t2, hM⟩
        dsimp only at t1 t2 hM ⊢
        conv => whnf
        by_cases hltt : st ≤ (moB b m).th
        · have hin : InC b m sp st := ⟨h1, hlts, t1, hltt⟩
          have hg := hgr sp st hin
          have hgx := hgb sp st hin
          have hput := fun h => hM.put (D' := fun x y => x < sp ∨ (x = sp ∧ y < st + 1)) hin (fun x y _ => by omega) h
          have hskip : first = false → ¬ valC b l m k n sp st < v → MI b l m k n (fun x y => x < sp ∨ (x = sp ∧ y < st + 1)) false v := fun hf h => by
            subst hf
            exact hM.skip (sp := sp) (st := st) (fun x y _ => by omega) h
          have hvb := hsm k (by omega) (grC b m n sp st - rkR b l m n).toNat
          unfold valC at hput hskip
          generalize grC b m n sp st = g at hg hgx hput hskip hvb
          generalize hrz : rkR b l m n = rk at hput hskip hvb hrb
          have hsf : (fun n => smF b l k n) (g - rk).toNat = smF b l k (g - rk).toNat := rfl
          cases first
          · skip
            repeat' first | ((with_reducible apply XBr.ff); conv => whnf) | ((with_reducible apply XBr.dec) <;> (intro h; first | (exfalso; omega) | ((try simp only [List.length_map] at h); first | (exfalso; omega) | (conv => whnf)))) | ((with_reducible refine XInt.i64 (by omega) (by omega) ?_); conv => whnf) | (with_reducible apply XAnd.mk) | ((first | (with_reducible apply Chk.go) | (with_reducible apply ChkA.go) | (with_reducible apply ChkF.go) | (with_reducible apply ChkB.go)); conv => whnf) | (exact XSame.mk rfl rfl) | (with_reducible exact trivial) | (apply Walk.drawN (id := 17) tab_ok mixed_ok [] [] (hsU _) [_, _, _, _, _, _, _, _, _, _, _, _, _, _, _, _, _, _, _] (by kernel_rfl) rfl) | ((first | (with_reducible apply XNext.mk) | (refine XCall.ret hg ?_) | (refine XHold.mk ⟨hvl, rfl, by omega, by omega⟩ ?_) | ((refine XGet.vecV (m + 1) (by omega) rfl (by omega) ?_); rw [hrow]) | (refine XIx.ivs (g - rk).toNat (by omega) (by omega) ?_) | (refine XHold.mk ⟨by rw [ivs_len], rfl, by omega, by omega⟩ ?_) | ((refine XGet.ivs n (by omega) rfl (by omega) ?_); rw [updV_same]) | ((refine XPut.ivs n (by omega) rfl (by omega) ?_); rw [updV_updV])); conv => whnf) | fail
            all_goals first
              | exact XAgain.go (st + 1, false, rk + smF b l k (g - rk).toNat) ⟨by dsimp only; omega, by dsimp only; omega, hput (.inr (by omega))⟩ (by dsimp only; omega) rfl ⟨rfl, rfl, rfl, rfl, rfl, rfl, rfl, rfl, rfl, rfl, rfl, trivial⟩
              | exact XAgain.go (st + 1, false, v) ⟨by dsimp only; omega, by dsimp only; omega, hskip rfl (by omega)⟩ (by dsimp only; omega) rfl ⟨rfl, rfl, rfl, rfl, rfl, rfl, rfl, rfl, rfl, rfl, rfl, trivial⟩
          · skip
            repeat' first | ((with_reducible apply XBr.tt); conv => whnf) | ((with_reducible apply XBr.dec) <;> (intro h; first | (exfalso; omega) | ((try simp only [List.length_map] at h); first | (exfalso; omega) | (conv => whnf)))) | ((with_reducible refine XInt.i64 (by omega) (by omega) ?_); conv => whnf) | (with_reducible apply XAnd.mk) | ((first | (with_reducible apply Chk.go) | (with_reducible apply ChkA.go) | (with_reducible apply ChkF.go) | (with_reducible apply ChkB.go)); conv => whnf) | (exact XSame.mk rfl rfl) | (with_reducible exact trivial) | (apply Walk.drawN (id := 17) tab_ok mixed_ok [] [] (hsU _) [_, _, _, _, _, _, _, _, _, _, _, _, _, _, _, _, _, _, _] (by kernel_rfl) rfl) | ((first | (with_reducible apply XNext.mk) | (refine XCall.ret hg ?_) | (refine XHold.mk ⟨hvl, rfl, by omega, by omega⟩ ?_) | ((refine XGet.vecV (m + 1) (by omega) rfl (by omega) ?_); rw [hrow]) | (refine XIx.ivs (g - rk).toNat (by omega) (by omega) ?_) | (refine XHold.mk ⟨by rw [ivs_len], rfl, by omega, by omega⟩ ?_) | ((refine XPut.ivs n (by omega) rfl (by omega) ?_); rw [updV_updV])); conv => whnf) | fail
            exact XAgain.go (st + 1, false, rk + smF b l k (g - rk).toNat) ⟨by dsimp only; omega, by dsimp only; omega, hput (.inl rfl)⟩ (by dsimp only; omega) rfl ⟨rfl, rfl, rfl, rfl, rfl, rfl, rfl, rfl, rfl, rfl, rfl, trivial⟩
        · skip
          repeat' first | ((with_reducible apply XBr.dec) <;> (intro h; first | (exfalso; omega) | ((try simp only [List.length_map] at h); first | (exfalso; omega) | (conv => whnf)))) | ((with_reducible refine XInt.i64 (by omega) (by omega) ?_); conv => whnf) | fail
          exact XAgain.go (sp + 1, first, v) ⟨by dsimp only; omega, by dsimp only; omega, hM.to fun x y h => by have := h.2.2.2; dsimp only; omega⟩ (by dsimp only; omega) rfl ⟨rfl, rfl, rfl, rfl, rfl, rfl, rfl, rfl, rfl, rfl, trivial⟩
      · have hv := hall _ _ _ hM fun x y h => by have := h.2.1; omega
        subst hv
        repeat' first | ((with_reducible apply XBr.dec) <;> (intro h; first | (exfalso; omega) | ((try simp only [List.length_map] at h); first | (exfalso; omega) | (conv => whnf)))) | ((with_reducible refine XInt.i64 (by omega) (by omega) ?_); conv => whnf) | fail
        refine XAgainG.go (n + 1) [.cells (moC (moB b m))] ⟨by omega, by omega, fun h => by omega⟩ (by omega) ?_ ⟨rfl, rfl, rfl, rfl, rfl, rfl, trivial⟩
        show [_, Blk.grow _ false (ivs _ _), _] = [_, Blk.grow _ false (ivs _ _), _]
        refine congrArg (fun z => [_, Blk.grow _ false z, _]) (ivs_congr fun i _ => ?_)
        unfold updV
        by_cases hi : i = n
        · rw [if_pos hi, if_pos (by omega), hi]
        · rw [if_neg hi]
          show (if i < n + 1 then smF b l (k + 1) i else 0) = if i < n then smF b l (k + 1) i else 0
          by_cases hi2 : i < n
          · rw [if_pos hi2, if_pos (by omega)]
          · rw [if_neg hi2, if_neg (by omega)]
    · have hn4 : j = 0 ∨ n = (b.room + 1).toNat := by omega
      repeat' first | ((first | (with_reducible apply XBr.tt) | (with_reducible apply XBr.ff)); conv => whnf) | ((with_reducible apply XBr.dec) <;> (intro h; first | (exfalso; omega) | ((try simp only [List.length_map] at h); first | (exfalso; omega) | (conv => whnf)))) | ((first | (with_reducible refine XInt.i64 (by omega) (by omega) ?_) | (refine XFrz.go rfl rfl (ivs_len _ _) ?_) | (refine XHold.mk ⟨hvl, rfl, by omega, by omega⟩ ?_) | (refine XPut.vecV m (by omega) rfl (by omega) ?_)); conv => whnf) | fail
      all_goals
        refine XAgainG.go (j + 1) [.dead] (by omega) (by omega) ?_ ⟨rfl, rfl, rfl, congrArg (fun z => some (AV.int .i64 z)) hm6'.symm, trivial⟩
        show [Blk.grow _ false (vecF _ _), _] = [Blk.grow _ false (vecF _ _), _]
        refine congrArg (fun z => [Blk.grow _ false z, Blk.dead]) (vecF_congr fun i hi => ?_)
        unfold updV
        by_cases he : i = m
        · subst he
          rw [if_pos rfl]
          unfold smRows smRow
          rw [if_pos (by omega), show b.months.length - i = j by omega]
          refine congrArg (AV.sl false) (ivs_congr fun q hq => ?_)
          rcases hn4 with h | h
          · subst h
            split <;> rfl
          · rw [if_pos (by omega)]
        · rw [if_neg he]
          unfold smRows
          by_cases h2 : b.months.length < i + j
          · rw [if_pos h2, if_pos (by omega)]
          · rw [if_neg h2, if_neg (by omega)]
  · obtain rfl : j = b.months.length + 1 := by omega
    rw [show (b.months.length : Int) - ((b.months.length + 1 : Nat) : Int) = -1 by omega]
    conv => whnf
    repeat' first | ((with_reducible apply XBr.dec) <;> (intro h; first | (exfalso; omega) | ((try simp only [List.length_map] at h); first | (exfalso; omega) | (conv => whnf)))) | fail
    unfold sumsA
    rw [vecF_congr (F := smRow b l) (G := smRows b l (b.months.length + 1)) fun i hi => by unfold smRows; rw [if_pos (by omega)]]
    exact ⟨Froz.grow rfl hvl (vecF_low fun _ _ => smRows_low _ _ _ _)⟩
end GA
end

section
namespace GA
open Go Go.RowKit Go.Proofs
set_option pp.deepTerms true
set_option maxRecDepth 8000
set_option linter.unusedVariables false
set_option linter.unusedSimpArgs false

theorem XIx.lss {l : List (List Int)} {n : Int} {k : AV → Prop} (i : Nat) (hn : n = i) (h2 : i < l.length) (h : k (.pim [lsA (l.getD i default)])) : XIx (l.map lsA) n 1 k := by
  subst hn
  exact XIx.nat (f := lsA) h2 (fun _ => rfl) h
end GA
end

section
namespace GA
open Go Go.RowKit Go.Proofs
set_option pp.deepTerms true
set_option maxRecDepth 8000
set_option linter.unusedVariables false
set_option linter.unusedSimpArgs false

theorem XIx.vecV {W : Nat} {F : Nat → AV} {n : Int} {k : AV → Prop} (i : Nat) (hn : n = i) (h2 : i < W) (h1 : (F i).cells = [F i]) (h : k (.pim [F i])) : XIx (vecF W F) n 1 k := by
  subst hn
  have e : nth (vecF W F) (i : Int) = F i := by
    unfold nth
    rw [Int.toNat_natCast]; exact vecF_get _ h2
  refine ⟨by omega, by rw [vecF_len]; omega, by rw [e, h1]; rfl, ?_⟩
  rw [e, h1]; exact h
end GA
end

section
namespace GA
open Go Go.RowKit Go.Proofs
set_option pp.deepTerms true
set_option maxRecDepth 8000
set_option linter.unusedVariables false
set_option linter.unusedSimpArgs false

theorem lieR_congr {b c : Bd} (hr : b.room = c.room) (hm : b.months = c.months) (m n : Nat) : lieR b m n = lieR c m n := by unfold lieR; rw [hr, hm]
end GA
end

section
namespace GA
open Go Go.RowKit Go.Proofs
set_option pp.deepTerms true
set_option maxRecDepth 8000
set_option linter.unusedVariables false
set_option linter.unusedSimpArgs false

theorem ruleA_none {b : Bd} {share : Int} (h : bShareE b share = 0) (hl : flrL b share b.months.length = none) : ruleA b share = .tup [.sl true [], .int .i64 0, .int .i64 6] := by
  unfold ruleA; rw [if_neg (fun h' => h' h), hl]
theorem ruleA_low {b : Bd} {share : Int} {l : List Int} (h : bShareE b share = 0) (hl : flrL b share b.months.length = some l) (hlt : leastR b < l.getD 0 default) : ruleA b share = .tup [.sl true [], .int .i64 0, .int .i64 6] := by
  unfold ruleA; rw [if_neg (fun h' => h' h), hl]; dsimp only; rw [if_pos hlt]
theorem ruleA_some {b : Bd} {share : Int} {l : List Int} (h : bShareE b share = 0) (hl : flrL b share b.months.length = some l) (hlt : ¬ leastR b < l.getD 0 default) : ruleA b share = .tup [.sl false (ruleAs b l), .int .i64 (mnP (smF b l b.months.length) (leastR b).toNat (ruleN b)), .int .i64 0] := by
  unfold ruleA; rw [if_neg (fun h' => h' h), hl]; dsimp only; rw [if_neg hlt]
end GA
end

section
namespace GA
open Go Go.RowKit Go.Proofs
set_option pp.deepTerms true
set_option maxRecDepth 8000
set_option linter.unusedVariables false
set_option linter.unusedSimpArgs false

theorem courE_2 {b : Bd} {c : List Int} (h : bedE b = 0) (h2 : (c.length : Int) ≠ b.months.length + 1) : courE b c = 2 := by unfold courE; rw [if_neg (fun h' => h' h), if_pos h2]
theorem courE_3 {b : Bd} {c : List Int} (h : bedE b = 0) (h2 : ¬ (c.length : Int) ≠ b.months.length + 1) (h3 : c.all (fun x => inZ x 0 b.room) = false) : courE b c = 3 := by unfold courE; rw [if_neg (fun h' => h' h), if_neg h2, if_pos h3]
theorem refCoursed_c (b : Bd) (nl : Bool) (c : List Int) (h1 : b.months.length ≤ 100000) (h2 : b.surveys.length ≤ 100000) (h3 : c.length ≤ 100000) : Comp Try.prog 70 [bedA b, .sl nl (ints c)] (.int .i64 (courE b c)) := by
  have hc := refCheck04_c b h1 h2
  have e1 : ((b.months.map moA).length : Int) = b.months.length := by rw [List.length_map]
  have e2 : ((ints c).length : Int) = c.length := by rw [ints_len]
  by_cases hb : bedE b = 0
  · rw [hb] at hc
    refine Comp.body (T := tab) (res := [.tmp 4]) tab_ok [] Try.func70 rfl (by kernel_rfl) Try.ntmps70 rfl (by simp only [List.length_cons, List.length_nil]; decide) (by simp only [lowL, bedL, AV.low, lowI]; rfl) ?_; conv => whnf
    repeat' first | ((with_reducible apply XBr.bne) <;> (intro h; first | (exfalso; omega) | (conv => whnf))) | ((first | (with_reducible refine XInt.i64 (by omega) (by omega) ?_) | (refine XCall.ret hc ?_)); conv => whnf) | fail
    · exact XOut.int (courE_2 hb (by rw [e1, e2] at *; omega)).symm
    have hlen : ¬ (c.length : Int) ≠ b.months.length + 1 := by rw [e1, e2] at *; omega
    refine Walk.loopK tab_ok [] [(1, _), (2, _)] ⟨rfl, rfl, trivial⟩ (fun k : Nat => k ≤ c.length ∧ ∀ j, j < k → inZ (c.getD j default) 0 b.room = true) (fun k => [(6, natA k)]) (fun _ => []) (fun k => c.length - k) 0 ⟨Nat.zero_le _, fun j hj => by omega⟩ rfl ⟨rfl, trivial⟩ ?_
    rintro k ⟨hk, hks⟩
    conv => whnf
    by_cases hlt : k < c.length
    · have hE : inZ (c.getD k default) 0 b.room = false → courE b c = 3 := fun h => courE_3 hb hlen (allG_false (p := fun x => inZ x 0 b.room) hlt h)
      have hgo : inZ (c.getD k default) 0 b.room = true → ∀ j, j < k + 1 → inZ (c.getD j default) 0 b.room = true := fun h => upto_next hks h
      have hof := off04_c (c.getD k default) 0 b.room
      generalize inZ (c.getD k default) 0 b.room = r at hE hgo hof
      repeat' first | (with_reducible apply XBr.not) | ((with_reducible apply XBr.dec) <;> (intro h; first | (exfalso; omega) | ((try simp only [List.length_map] at h); first | (exfalso; omega) | (conv => whnf)))) | ((first | (with_reducible refine XInt.i64 (by omega) (by omega) ?_) | ((with_reducible refine XIx.nat ?_ ?_ ?_); omega; (intro _; rfl))); conv => whnf) | (with_reducible apply XAnd.mk) | ((first | (with_reducible apply Chk.go) | (with_reducible apply ChkA.go) | (with_reducible apply ChkF.go) | (with_reducible apply ChkB.go)); conv => whnf) | (exact XSame.mk rfl rfl) | (with_reducible exact trivial) | (apply Walk.drawN (id := 9) tab_ok mixed_ok [] [] (hsU _) [_, _, _, _, _, _, _] (by kernel_rfl) rfl) | ((first | (with_reducible apply XNext.mk) | (refine XCall.ret hof ?_)); conv => whnf) | ((with_reducible apply XBr.mk') <;> (intro h; conv => whnf)) | fail
      · exact XAgain.go (k + 1) ⟨by omega, hgo h⟩ (by omega) rfl ⟨rfl, rfl, rfl, trivial⟩
      · exact XOut.int (hE h).symm
    · obtain rfl : k = c.length := by omega
      repeat' first | ((with_reducible apply XBr.dec) <;> (intro h; first | (exfalso; omega) | ((try simp only [List.length_map] at h); first | (exfalso; omega) | (conv => whnf)))) | fail
      refine XOut.int ?_
      unfold courE
      rw [if_neg (fun h' => h' hb), if_neg hlen, if_neg (by rw [allG_true (p := fun x => inZ x 0 b.room) (d := default) hks]; simp)]
  · have hE : courE b c = bedE b := by unfold courE; rw [if_pos hb]
    rw [hE]
    generalize bedE b = e at hc hb
    refine Comp.body (T := tab) (res := [.tmp 4]) tab_ok [] Try.func70 rfl (by kernel_rfl) Try.ntmps70 rfl (by simp only [List.length_cons, List.length_nil]; decide) (by simp only [lowL, bedL, AV.low, lowI]; rfl) ?_; conv => whnf
    repeat' first | ((with_reducible apply XBr.bne) <;> (intro h; first | (exfalso; omega) | (conv => whnf))) | ((refine XCall.ret hc ?_); conv => whnf) | fail
    exact ⟨.low rfl⟩
end GA
end

section
namespace GA
open Go Go.RowKit Go.Proofs
set_option pp.deepTerms true
set_option maxRecDepth 8000
set_option linter.unusedVariables false
set_option linter.unusedSimpArgs false

theorem flrL_congr {b c : Bd} (hr : b.room = c.room) (hm : b.months = c.months) (share : Int) : ∀ k, flrL b share k = flrL c share k
  | 0 => rfl
  | k + 1 => by
    have h : ∀ m v, flrStep b m v = flrStep c m v := fun m v => by
      unfold flrStep
      rw [hr]
      simp only [lieR_congr hr hm]
    unfold flrL
    rw [flrL_congr hr hm share k, hm]
    simp only [h]
theorem smF_congr {b c : Bd} (hr : b.room = c.room) (hm : b.months = c.months) (l : List Int) : ∀ k, smF b l k = smF c l k
  | 0 => by funext n; rfl
  | k + 1 => by
    funext n
    have h1 : ∀ m n, rkR b l m n = rkR c l m n := fun m n => by unfold rkR; rw [lieR_congr hr hm]
    have h2 : ∀ m n, gbR b m n = gbR c m n := fun m n => by unfold gbR moB; rw [hr, hm]
    unfold smF
    rw [smF_congr hr hm l k, hr, hm]
    simp only [h1, h2, lieR_congr hr hm]
theorem ruleA_own (b : Bd) (share : Int) : ruleA (ownB b) share = ruleA b share := by
  unfold ruleA
  rw [flrL_congr (b := ownB b) (c := b) rfl rfl]
  simp only [smF_congr (b := ownB b) (c := b) rfl rfl]
  rfl
theorem floorA_own (b : Bd) (share : Int) : floorA (ownB b) share = floorA b share := by
  unfold floorA
  rw [flrL_congr (b := ownB b) (c := b) rfl rfl]
  rfl
theorem ruleAs_rows (b : Bd) (l : List Int) : ruleAs b l = rowsA (vecF b.months.length (ruleRow b l)) := by
  have hne : ∀ i, (ruleRow b l i).isEmpty = false := fun i => by
    have h1 : (ruleRow b l i).length = b.room.toNat + 1 := vecF_len _ _
    cases h : ruleRow b l i with
    | nil => rw [h] at h1; simp at h1
    | cons x y => rfl
  unfold ruleAs
  refine (List.ext_getElem? fun i => ?_)
  rw [List.getElem?_map, vecF_get?, vecF_get?]
  split
  · show some _ = some (AV.sl (ruleRow b l i).isEmpty _)
    rw [hne]
  · rfl
theorem mn_min {F : Nat → Int} (hF : ∀ q, 0 ≤ F q) {c0 n : Nat} {v : Int} (hn : c0 ≤ n) (hv : v = if n = c0 then F c0 else mnP F c0 n) : min v (F n) = if n + 1 = c0 then F c0 else mnP F c0 (n + 1) := by
  rw [if_neg (by omega), mnP_succ hn]
  unfold mnS
  by_cases h : n = c0
  · subst h
    rw [if_pos rfl] at hv
    rw [hv, mnP_nil, if_pos (.inl (by omega))]; omega
  · rw [if_neg h] at hv
    obtain ⟨q, -, -, hq⟩ := mnP_at (F := F) (lo := c0) n (by omega) fun q _ _ => hF q
    have := hF q
    split <;> omega
set_option maxHeartbeats 2000000 in
theorem bedFloors_c (b : Bd) (nl : Bool) (floor : List Int) (share : Int) (_hx : floor.length < 9223372036854775808) : Comp Try.prog 14 [bedA b, .sl nl (ints floor), .int .i64 share] (.bool true) := by
  have hgr := great04_c b
  have hwi := wide04_c b 40 10 8
  have e2 : ((ints floor).length : Int) = floor.length := by rw [ints_len]
  cases hg : great04 b
  case true =>
    refine Comp.body (T := tab) (res := [.tmp 6]) tab_ok [] Try.func14 rfl (by kernel_rfl) Try.ntmps14 rfl (by simp only [List.length_cons, List.length_nil]; decide) (by simp only [lowL, bedL, AV.low, lowI]; rfl) ?_; conv => whnf
    repeat' first | ((first | (with_reducible apply XBr.tt) | ((refine XCall.ret hgr ?_); rw [hg]) | (refine XCall.ret awake04_c ?_)); conv => whnf) | fail
    exact ⟨.low rfl⟩
  by_cases hp14 : 14 < floor.length
  · refine Comp.body (T := tab) (res := [.tmp 6]) tab_ok [] Try.func14 rfl (by kernel_rfl) Try.ntmps14 rfl (by simp only [List.length_cons, List.length_nil]; decide) (by simp only [lowL, bedL, AV.low, lowI]; rfl) ?_; conv => whnf
    repeat' first | ((first | (with_reducible apply XBr.tt) | (with_reducible apply XBr.ff)); conv => whnf) | ((with_reducible apply XBr.dec) <;> (intro h; first | (exfalso; omega) | ((try simp only [List.length_map] at h); first | (exfalso; omega) | (conv => whnf)))) | ((first | ((refine XCall.ret hgr ?_); rw [hg]) | (refine XCall.ret awake04_c ?_)); conv => whnf) | fail
    exact ⟨.low rfl⟩
  by_cases hw : 40 < b.room ∧ b.room ≤ 120 ∨ (10 : Int) < b.months.length ∧ (b.months.length : Int) ≤ 10 ∨ (8 : Int) < b.surveys.length ∧ (b.surveys.length : Int) ≤ 8
  · rw [decide_eq_true hw] at hwi
    refine Comp.body (T := tab) (res := [.tmp 6]) tab_ok [] Try.func14 rfl (by kernel_rfl) Try.ntmps14 rfl (by simp only [List.length_cons, List.length_nil]; decide) (by simp only [lowL, bedL, AV.low, lowI]; rfl) ?_; conv => whnf
    repeat' first | ((first | (with_reducible apply XBr.tt) | (with_reducible apply XBr.ff)); conv => whnf) | ((with_reducible apply XBr.dec) <;> (intro h; first | (exfalso; omega) | ((try simp only [List.length_map] at h); first | (exfalso; omega) | (conv => whnf)))) | ((first | ((refine XCall.ret hgr ?_); rw [hg]) | (refine XCall.ret hwi ?_) | (refine XCall.ret awake04_c ?_)); conv => whnf) | fail
    exact ⟨.low rfl⟩
  rw [decide_eq_false hw] at hwi
  obtain ⟨g1, g2⟩ := great_iff.1 hg
  have hs1 : b.months.length ≤ 100000 := by omega
  have hs2 : b.surveys.length ≤ 100000 := by omega
  have how := own04_c b (by omega) (by omega)
  have hth := theirs04_c b (by omega) (by omega)
  have hdu := dupC nl floor (by omega)
  have hsa := same04_c b (by omega) (by omega)
  have hem := eq_int false nl floor floor (by omega)
  rw [beq_self_eq_true] at hem
  have hco := refCoursed_c (thB b) nl floor hs1 hs2 (by omega)
  change Comp Try.prog _ _ (.int .i64 (courE b floor)) at hco
  have hck := refCheck04_c (thB b) hs1 hs2
  change Comp Try.prog _ _ (.int .i64 (bedE b)) at hck
  have hke := kept_c (ownB b) false floor share hs1 hs2 (by omega)
  change Comp Try.prog _ _ (keptA b floor share) at hke
  have hfl := floor_all_c (ownB b) share hs1 hs2
  rw [floorA_own] at hfl
  have hru := rule_c (ownB b) share hs1 hs2
  rw [ruleA_own] at hru
  have hnil : Comp Try.prog 33 [.sl true (ints []), .sl true (ints [])] (.bool true) := eq_int true true [] [] (by simp)
  have hnir : Comp Try.prog 67 [.sl true (rowsA []), .sl true (rowsA [])] (.bool true) := eqRows true true [] (by simp) (fun r hr => by cases hr)
  have hCB : courE b floor = 0 → bedE b = 0 := fun h => (bedE_iff b).2 (courE_iff.1 h).1
  have hBC : bedE b ≠ 0 → courE b floor = bedE b := fun h => by unfold courE; rw [if_pos h]
  unfold keptA at hke
  by_cases hB : bedE b = 0
  · have ok := (bedE_iff b).1 hB
    rw [hB] at hck
    have tok : BedOk (thB b) := ⟨ok.r1, ok.r2, ok.m1, ok.m2, ok.f1, ok.f2, ok.u1, ok.u2, ok.mo⟩
    have hrk : courE b floor = 0 → Comp Try.prog 71 [bedA (thB b), .sl nl (ints floor), .int .i64 share] (.bool (decide (KeptP b floor share))) := fun h => by
      obtain ⟨-, h1, h2⟩ := courE_iff.1 h
      exact refKept_c (thB b) tok nl floor share h1 h2
    by_cases hS : 0 ≤ share ∧ share ≤ b.room
    · have hE : bShareE b share = 0 := bShareE_iff.2 ⟨ok, hS⟩
      have hrf := refFloor_c (thB b) tok share hS
      unfold floorV at hrf
      rw [flrL_congr (b := thB b) (c := b) rfl rfl] at hrf
      change Comp Try.prog _ _ (match flrL b share b.months.length with | none => .sl true [] | some l => .sl false (ints l)) at hrf
      cases hfx : flrL b share b.months.length with
      | none =>
        rw [hfx] at hrf
        dsimp only at hrf
        rw [floorA_none hE hfx] at hfl
        rw [ruleA_none hE hfx] at hru
        have heq := hnil
        have her := hnir
        by_cases hC : courE b floor = 0
        · have hrk := hrk hC
          rw [if_neg (fun h => h hC), if_neg (by rw [inZ_iff.2 hS]; simp)] at hke
          rw [hC] at hco
          generalize decide (KeptP b floor share) = kp at hke hrk
          have hbb : (kp != kp) = false := by cases kp <;> rfl
          refine Comp.body (T := tab) (res := [.tmp 6]) tab_ok [] Try.func14 rfl (by kernel_rfl) Try.ntmps14 rfl (by simp only [List.length_cons, List.length_nil]; decide) (by simp only [lowL, bedL, AV.low, lowI]; rfl) ?_; conv => whnf
          repeat' first | ((with_reducible apply XBr.ff); conv => whnf) | ((with_reducible apply XBr.dec) <;> (intro h; first | (exfalso; omega) | ((try simp only [List.length_map] at h); first | (exfalso; omega) | (conv => whnf)))) | ((first | ((refine XCall.ret hgr ?_); rw [hg]) | (refine XCall.ret hwi ?_)); conv => whnf) | fail
          refine Walk.place (Walk.place ?_)
          apply Walk.drawX tab_ok mixed_ok [] [6, 7, 8, 10] (fun fl => match fl with
            | [a, b', x, y] => [(bif a then .cells (bif x then bedC (ownB b) else bzero) else .free), (bif b' then .cells (bif y then bedC (thB b) else bzero) else .free)]
            | _ => []) [_, _, _, _, _, _, .ptr 0 0, .ptr 1 0, _, _, _] (by kernel_rfl) rfl
          · skip
            repeat' first | (with_reducible apply XAnd.mk) | ((first | (with_reducible apply Chk.go) | (with_reducible apply ChkA.go)); conv => whnf) | (exact XSame.mk rfl rfl) | (with_reducible exact trivial) | ((first | (refine XCall.ret how ?_) | (refine XCall.ret hth ?_) | (refine XCall.ret hdu ?_)); conv => whnf) | (first | ((refine XFree.at 0 rfl ?_); (conv => whnf); exact XSame.mk rfl rfl) | ((refine XFree.at 1 rfl ?_); (conv => whnf); exact XSame.mk rfl rfl)) | fail
          · skip
            repeat' first | (with_reducible apply XAnd.mk) | ((first | (with_reducible apply Chk.go) | (with_reducible apply ChkF.go) | (with_reducible apply ChkB.go)); conv => whnf) | (exact XSame.mk rfl rfl) | (with_reducible exact trivial) | ((first | (refine XCall.ret how ?_) | (refine XCall.ret hth ?_) | (refine XCall.ret hdu ?_)); conv => whnf) | (first | ((refine XFree.at 0 rfl ?_); (conv => whnf); exact XSame.mk rfl rfl) | ((refine XFree.at 1 rfl ?_); (conv => whnf); exact XSame.mk rfl rfl)) | fail
          conv => whnf
          repeat' first | ((first | (with_reducible apply XBr.tt) | (with_reducible apply XBr.ff)); conv => whnf) | ((with_reducible apply XBr.dec) <;> (intro h; first | (exfalso; omega) | ((try simp only [List.length_map] at h); first | (exfalso; omega) | (conv => whnf)))) | ((with_reducible apply XBr.beq) <;> (intro h; first | (exfalso; omega) | (conv => whnf))) | ((with_reducible apply XBr.bne) <;> (intro h; first | (exfalso; omega) | (conv => whnf))) | ((first | (refine XCall.ret hco ?_) | (refine XCall.ret hke ?_) | (refine XCall.ret hrk ?_) | (refine XCall.ret hck ?_) | (refine XCall.ret hrf ?_) | (refine XCall.ret hfl ?_) | (refine XCall.ret hru ?_) | (with_reducible refine XBr.no hbb ?_)); conv => whnf) | fail
          all_goals
            refine Walk.norm tab_ok [] [(1, _), (2, _), (3, _), (6, _), (7, _), (8, _), (9, _), (10, _), (12, _), (13, _), (14, _), (15, _), (16, _), (21, _), (22, _), (23, _), (24, _)] ⟨rfl, rfl, rfl, rfl, rfl, rfl, rfl, rfl, rfl, rfl, rfl, rfl, rfl, rfl, rfl, rfl, rfl, trivial⟩ ?_
            conv => whnf
            repeat' first | ((with_reducible apply XBr.tt); conv => whnf) | ((with_reducible apply XBr.beq) <;> (intro h; first | (exfalso; omega) | (conv => whnf))) | ((first | (refine XCall.ret heq ?_) | (refine XCall.ret her ?_) | (refine XCall.ret hem ?_) | (refine XCall.ret hsa ?_) | (refine XCall.ret awake04_c ?_)); conv => whnf) | fail
          all_goals first | exact ⟨.low rfl⟩ | (exfalso; omega) | (exfalso; simp at h; done)
        · have hrk : True := trivial
          rw [if_pos hC] at hke
          generalize courE b floor = C at hC hke hco
          refine Comp.body (T := tab) (res := [.tmp 6]) tab_ok [] Try.func14 rfl (by kernel_rfl) Try.ntmps14 rfl (by simp only [List.length_cons, List.length_nil]; decide) (by simp only [lowL, bedL, AV.low, lowI]; rfl) ?_; conv => whnf
          repeat' first | ((with_reducible apply XBr.ff); conv => whnf) | ((with_reducible apply XBr.dec) <;> (intro h; first | (exfalso; omega) | ((try simp only [List.length_map] at h); first | (exfalso; omega) | (conv => whnf)))) | ((first | ((refine XCall.ret hgr ?_); rw [hg]) | (refine XCall.ret hwi ?_)); conv => whnf) | fail
          refine Walk.place (Walk.place ?_)
          apply Walk.drawX tab_ok mixed_ok [] [6, 7, 8, 10] (fun fl => match fl with
            | [a, b', x, y] => [(bif a then .cells (bif x then bedC (ownB b) else bzero) else .free), (bif b' then .cells (bif y then bedC (thB b) else bzero) else .free)]
            | _ => []) [_, _, _, _, _, _, .ptr 0 0, .ptr 1 0, _, _, _] (by kernel_rfl) rfl
          · skip
            repeat' first | (with_reducible apply XAnd.mk) | ((first | (with_reducible apply Chk.go) | (with_reducible apply ChkA.go)); conv => whnf) | (exact XSame.mk rfl rfl) | (with_reducible exact trivial) | ((first | (refine XCall.ret how ?_) | (refine XCall.ret hth ?_) | (refine XCall.ret hdu ?_)); conv => whnf) | (first | ((refine XFree.at 0 rfl ?_); (conv => whnf); exact XSame.mk rfl rfl) | ((refine XFree.at 1 rfl ?_); (conv => whnf); exact XSame.mk rfl rfl)) | fail
          · skip
            repeat' first | (with_reducible apply XAnd.mk) | ((first | (with_reducible apply Chk.go) | (with_reducible apply ChkF.go) | (with_reducible apply ChkB.go)); conv => whnf) | (exact XSame.mk rfl rfl) | (with_reducible exact trivial) | ((first | (refine XCall.ret how ?_) | (refine XCall.ret hth ?_) | (refine XCall.ret hdu ?_)); conv => whnf) | (first | ((refine XFree.at 0 rfl ?_); (conv => whnf); exact XSame.mk rfl rfl) | ((refine XFree.at 1 rfl ?_); (conv => whnf); exact XSame.mk rfl rfl)) | fail
          conv => whnf
          repeat' first | ((first | (with_reducible apply XBr.tt) | (with_reducible apply XBr.ff)); conv => whnf) | ((with_reducible apply XBr.dec) <;> (intro h; first | (exfalso; omega) | ((try simp only [List.length_map] at h); first | (exfalso; omega) | (conv => whnf)))) | ((with_reducible apply XBr.beq) <;> (intro h; first | (exfalso; omega) | (conv => whnf))) | ((with_reducible apply XBr.bne) <;> (intro h; first | (exfalso; omega) | (conv => whnf))) | ((first | (refine XCall.ret hco ?_) | (refine XCall.ret hke ?_) | (refine XCall.ret hck ?_) | (refine XCall.ret hrf ?_) | (refine XCall.ret hfl ?_) | (refine XCall.ret hru ?_) | (with_reducible refine XBr.no (by decide) ?_)); conv => whnf) | fail
          all_goals
            refine Walk.norm tab_ok [] [(1, _), (2, _), (3, _), (6, _), (7, _), (8, _), (9, _), (10, _), (12, _), (13, _), (14, _), (15, _), (16, _), (21, _), (22, _), (23, _), (24, _)] ⟨rfl, rfl, rfl, rfl, rfl, rfl, rfl, rfl, rfl, rfl, rfl, rfl, rfl, rfl, rfl, rfl, rfl, trivial⟩ ?_
            conv => whnf
            repeat' first | ((with_reducible apply XBr.tt); conv => whnf) | ((with_reducible apply XBr.beq) <;> (intro h; first | (exfalso; omega) | (conv => whnf))) | ((first | (refine XCall.ret heq ?_) | (refine XCall.ret her ?_) | (refine XCall.ret hem ?_) | (refine XCall.ret hsa ?_) | (refine XCall.ret awake04_c ?_)); conv => whnf) | fail
          all_goals first | exact ⟨.low rfl⟩ | (exfalso; omega) | (exfalso; simp at h; done)
      | some l =>
        obtain ⟨q1, q2, q3⟩ := flrL_spec ok.toBedOk hS _ l (Nat.le_refl _) hfx
        have hlen := flrL_len hfx
        have hll : ((ints l).length : Int) = b.months.length + 1 := by rw [ints_len]; omega
        have hlv : ∀ j, j ≤ b.months.length → 0 ≤ l.getD j default ∧ l.getD j default ≤ b.room := fun j hj => q2 _ (getD_mem (by omega))
        have heq := eq_int false false l l (by have := ok.m2; omega)
        rw [beq_self_eq_true] at heq
        rw [hfx] at hrf
        dsimp only at hrf
        rw [floorA_some hE hfx] at hfl
        have r1 := ok.r1
        have r2 := ok.r2
        have f1 := ok.f1
        have f2 := ok.f2
        have u1 := ok.u1
        have u2 := ok.u2
        have hlr : leastR b = max 0 (b.first - b.unsure) := rfl
        have hl00 : l.getD (Int.toNat 0) default = l.getD 0 default := rfl
        by_cases hlt : leastR b < l.getD 0 default
        · rw [ruleA_low hE hfx hlt] at hru
          have her := hnir
          have hlt' : decide (max 0 (b.first - b.unsure) < l.getD (Int.toNat 0) default) = true := decide_eq_true hlt
          by_cases hC : courE b floor = 0
          · have hrk := hrk hC
            rw [if_neg (fun h => h hC), if_neg (by rw [inZ_iff.2 hS]; simp)] at hke
            rw [hC] at hco
            generalize decide (KeptP b floor share) = kp at hke hrk
            have hbb : (kp != kp) = false := by cases kp <;> rfl
            refine Comp.body (T := tab) (res := [.tmp 6]) tab_ok [] Try.func14 rfl (by kernel_rfl) Try.ntmps14 rfl (by simp only [List.length_cons, List.length_nil]; decide) (by simp only [lowL, bedL, AV.low, lowI]; rfl) ?_; conv => whnf
            repeat' first | ((with_reducible apply XBr.ff); conv => whnf) | ((with_reducible apply XBr.dec) <;> (intro h; first | (exfalso; omega) | ((try simp only [List.length_map] at h); first | (exfalso; omega) | (conv => whnf)))) | ((first | ((refine XCall.ret hgr ?_); rw [hg]) | (refine XCall.ret hwi ?_)); conv => whnf) | fail
            refine Walk.place (Walk.place ?_)
            apply Walk.drawX tab_ok mixed_ok [] [6, 7, 8, 10] (fun fl => match fl with
              | [a, b', x, y] => [(bif a then .cells (bif x then bedC (ownB b) else bzero) else .free), (bif b' then .cells (bif y then bedC (thB b) else bzero) else .free)]
              | _ => []) [_, _, _, _, _, _, .ptr 0 0, .ptr 1 0, _, _, _] (by kernel_rfl) rfl
            · skip
              repeat' first | (with_reducible apply XAnd.mk) | ((first | (with_reducible apply Chk.go) | (with_reducible apply ChkA.go)); conv => whnf) | (exact XSame.mk rfl rfl) | (with_reducible exact trivial) | ((first | (refine XCall.ret how ?_) | (refine XCall.ret hth ?_) | (refine XCall.ret hdu ?_)); conv => whnf) | (first | ((refine XFree.at 0 rfl ?_); (conv => whnf); exact XSame.mk rfl rfl) | ((refine XFree.at 1 rfl ?_); (conv => whnf); exact XSame.mk rfl rfl)) | fail
            · skip
              repeat' first | (with_reducible apply XAnd.mk) | ((first | (with_reducible apply Chk.go) | (with_reducible apply ChkF.go) | (with_reducible apply ChkB.go)); conv => whnf) | (exact XSame.mk rfl rfl) | (with_reducible exact trivial) | ((first | (refine XCall.ret how ?_) | (refine XCall.ret hth ?_) | (refine XCall.ret hdu ?_)); conv => whnf) | (first | ((refine XFree.at 0 rfl ?_); (conv => whnf); exact XSame.mk rfl rfl) | ((refine XFree.at 1 rfl ?_); (conv => whnf); exact XSame.mk rfl rfl)) | fail
            conv => whnf
            repeat' first | ((first | (with_reducible apply XBr.tt) | (with_reducible apply XBr.ff)); conv => whnf) | ((with_reducible apply XBr.dec) <;> (intro h; first | (exfalso; omega) | ((try simp only [List.length_map] at h); first | (exfalso; omega) | (conv => whnf)))) | ((with_reducible apply XBr.beq) <;> (intro h; first | (exfalso; omega) | (conv => whnf))) | ((with_reducible apply XBr.bne) <;> (intro h; first | (exfalso; omega) | (conv => whnf))) | ((first | (with_reducible refine XInt.i64 (by omega) (by omega) ?_) | ((with_reducible refine XIx.map ?_ ?_ ?_ ?_); omega; omega; (intro _; rfl))); conv => whnf) | (with_reducible apply XAnd.mk) | ((first | (with_reducible apply Chk.go) | (with_reducible apply ChkA.go) | (with_reducible apply ChkF.go) | (with_reducible apply ChkB.go)); conv => whnf) | (exact XSame.mk rfl rfl) | (with_reducible exact trivial) | (apply Walk.drawN (id := 20) tab_ok mixed_ok [] [] (hsU _) [_, _, _, _, _, _, _, _, _, _] (by kernel_rfl) rfl) | ((first | (with_reducible apply XNext.mk) | (refine XCall.ret hco ?_) | (refine XCall.ret hke ?_) | (refine XCall.ret hrk ?_) | (refine XCall.ret hck ?_) | (refine XCall.ret hrf ?_) | (refine XCall.ret hfl ?_) | (refine XCall.ret hru ?_) | (with_reducible refine XBr.no hbb ?_)); conv => whnf) | fail
            all_goals try (exfalso; omega)
            all_goals
              refine Walk.norm tab_ok [] [(1, _), (2, _), (3, _), (6, _), (7, _), (8, _), (9, _), (10, _), (12, _), (13, _), (14, _), (15, _), (16, _), (21, _), (22, _), (23, _), (24, _)] ⟨rfl, rfl, rfl, rfl, rfl, rfl, rfl, rfl, rfl, rfl, rfl, rfl, rfl, rfl, rfl, rfl, rfl, trivial⟩ ?_
              conv => whnf
              repeat' first | ((with_reducible apply XBr.tt); conv => whnf) | ((with_reducible apply XBr.beq) <;> (intro h; first | (exfalso; omega) | (conv => whnf))) | ((first | (refine XCall.ret heq ?_) | (refine XCall.ret her ?_) | (refine XCall.ret hem ?_) | (refine XCall.ret hsa ?_) | (refine XCall.ret awake04_c ?_)); conv => whnf) | fail
            all_goals first | exact ⟨.low rfl⟩ | (exfalso; omega) | (exfalso; simp at h; done)
          · have hrk : True := trivial
            rw [if_pos hC] at hke
            generalize courE b floor = C at hC hke hco
            refine Comp.body (T := tab) (res := [.tmp 6]) tab_ok [] Try.func14 rfl (by kernel_rfl) Try.ntmps14 rfl (by simp only [List.length_cons, List.length_nil]; decide) (by simp only [lowL, bedL, AV.low, lowI]; rfl) ?_; conv => whnf
            repeat' first | ((with_reducible apply XBr.ff); conv => whnf) | ((with_reducible apply XBr.dec) <;> (intro h; first | (exfalso; omega) | ((try simp only [List.length_map] at h); first | (exfalso; omega) | (conv => whnf)))) | ((first | ((refine XCall.ret hgr ?_); rw [hg]) | (refine XCall.ret hwi ?_)); conv => whnf) | fail
            refine Walk.place (Walk.place ?_)
            apply Walk.drawX tab_ok mixed_ok [] [6, 7, 8, 10] (fun fl => match fl with
              | [a, b', x, y] => [(bif a then .cells (bif x then bedC (ownB b) else bzero) else .free), (bif b' then .cells (bif y then bedC (thB b) else bzero) else .free)]
              | _ => []) [_, _, _, _, _, _, .ptr 0 0, .ptr 1 0, _, _, _] (by kernel_rfl) rfl
            · skip
              repeat' first | (with_reducible apply XAnd.mk) | ((first | (with_reducible apply Chk.go) | (with_reducible apply ChkA.go)); conv => whnf) | (exact XSame.mk rfl rfl) | (with_reducible exact trivial) | ((first | (refine XCall.ret how ?_) | (refine XCall.ret hth ?_) | (refine XCall.ret hdu ?_)); conv => whnf) | (first | ((refine XFree.at 0 rfl ?_); (conv => whnf); exact XSame.mk rfl rfl) | ((refine XFree.at 1 rfl ?_); (conv => whnf); exact XSame.mk rfl rfl)) | fail
            · skip
              repeat' first | (with_reducible apply XAnd.mk) | ((first | (with_reducible apply Chk.go) | (with_reducible apply ChkF.go) | (with_reducible apply ChkB.go)); conv => whnf) | (exact XSame.mk rfl rfl) | (with_reducible exact trivial) | ((first | (refine XCall.ret how ?_) | (refine XCall.ret hth ?_) | (refine XCall.ret hdu ?_)); conv => whnf) | (first | ((refine XFree.at 0 rfl ?_); (conv => whnf); exact XSame.mk rfl rfl) | ((refine XFree.at 1 rfl ?_); (conv => whnf); exact XSame.mk rfl rfl)) | fail
            conv => whnf
            repeat' first | ((first | (with_reducible apply XBr.tt) | (with_reducible apply XBr.ff)); conv => whnf) | ((with_reducible apply XBr.dec) <;> (intro h; first | (exfalso; omega) | ((try simp only [List.length_map] at h); first | (exfalso; omega) | (conv => whnf)))) | ((with_reducible apply XBr.beq) <;> (intro h; first | (exfalso; omega) | (conv => whnf))) | ((with_reducible apply XBr.bne) <;> (intro h; first | (exfalso; omega) | (conv => whnf))) | ((first | (with_reducible refine XInt.i64 (by omega) (by omega) ?_) | ((with_reducible refine XIx.map ?_ ?_ ?_ ?_); omega; omega; (intro _; rfl))); conv => whnf) | (with_reducible apply XAnd.mk) | ((first | (with_reducible apply Chk.go) | (with_reducible apply ChkA.go) | (with_reducible apply ChkF.go) | (with_reducible apply ChkB.go)); conv => whnf) | (exact XSame.mk rfl rfl) | (with_reducible exact trivial) | (apply Walk.drawN (id := 20) tab_ok mixed_ok [] [] (hsU _) [_, _, _, _, _, _, _, _, _, _] (by kernel_rfl) rfl) | ((first | (with_reducible apply XNext.mk) | (refine XCall.ret hco ?_) | (refine XCall.ret hke ?_) | (refine XCall.ret hck ?_) | (refine XCall.ret hrf ?_) | (refine XCall.ret hfl ?_) | (refine XCall.ret hru ?_) | (with_reducible refine XBr.no (by decide) ?_)); conv => whnf) | fail
            all_goals try (exfalso; omega)
            all_goals
              refine Walk.norm tab_ok [] [(1, _), (2, _), (3, _), (6, _), (7, _), (8, _), (9, _), (10, _), (12, _), (13, _), (14, _), (15, _), (16, _), (21, _), (22, _), (23, _), (24, _)] ⟨rfl, rfl, rfl, rfl, rfl, rfl, rfl, rfl, rfl, rfl, rfl, rfl, rfl, rfl, rfl, rfl, rfl, trivial⟩ ?_
              conv => whnf
              repeat' first | ((with_reducible apply XBr.tt); conv => whnf) | ((with_reducible apply XBr.beq) <;> (intro h; first | (exfalso; omega) | (conv => whnf))) | ((first | (refine XCall.ret heq ?_) | (refine XCall.ret her ?_) | (refine XCall.ret hem ?_) | (refine XCall.ret hsa ?_) | (refine XCall.ret awake04_c ?_)); conv => whnf) | fail
            all_goals first | exact ⟨.low rfl⟩ | (exfalso; omega) | (exfalso; simp at h; done)
        · rw [ruleA_some hE hfx hlt] at hru
          have hlt' : decide (max 0 (b.first - b.unsure) < l.getD (Int.toNat 0) default) = false := decide_eq_false hlt
          have hsu := sums_c (thB b) tok false l hlen q2
          have hsu2 : sumsA (thB b) l = sumsA b l := by
            unfold sumsA smRow
            simp only [smF_congr (b := thB b) (c := b) rfl rfl]; rfl
          rw [hsu2] at hsu
          have hsm := fun q => smF_b ok.toBedOk hlv b.months.length (Nat.le_refl _) q
          have m1 := ok.m1
          have m2 := ok.m2
          have e1 : ((b.months.map moA).length : Int) = b.months.length := by rw [List.length_map]
          obtain ⟨c0, hc0⟩ : ∃ c0 : Nat, max 0 (b.first - b.unsure) = c0 := ⟨(max 0 (b.first - b.unsure)).toNat, by omega⟩
          have her := eqRows false false (vecF b.months.length (ruleRow b l)) (by rw [vecF_len]; omega) (fun r hr => by
            obtain ⟨i, _, rfl⟩ := vecF_mem.1 hr
            unfold ruleRow; rw [vecF_len]; omega)
          rw [ruleAs_rows] at hru
          by_cases hC : courE b floor = 0
          · have hrk := hrk hC
            rw [if_neg (fun h => h hC), if_neg (by rw [inZ_iff.2 hS]; simp)] at hke
            rw [hC] at hco
            generalize decide (KeptP b floor share) = kp at hke hrk
            have hbb : (kp != kp) = false := by cases kp <;> rfl
            refine Comp.body (T := tab) (res := [.tmp 6]) tab_ok [] Try.func14 rfl (by kernel_rfl) Try.ntmps14 rfl (by simp only [List.length_cons, List.length_nil]; decide) (by simp only [lowL, bedL, AV.low, lowI]; rfl) ?_; conv => whnf
            repeat' first | ((with_reducible apply XBr.ff); conv => whnf) | ((with_reducible apply XBr.dec) <;> (intro h; first | (exfalso; omega) | ((try simp only [List.length_map] at h); first | (exfalso; omega) | (conv => whnf)))) | ((first | ((refine XCall.ret hgr ?_); rw [hg]) | (refine XCall.ret hwi ?_)); conv => whnf) | fail
            refine Walk.place (Walk.place ?_)
            apply Walk.drawX tab_ok mixed_ok [] [6, 7, 8, 10] (fun fl => match fl with
              | [a, b', x, y] => [(bif a then .cells (bif x then bedC (ownB b) else bzero) else .free), (bif b' then .cells (bif y then bedC (thB b) else bzero) else .free)]
              | _ => []) [_, _, _, _, _, _, .ptr 0 0, .ptr 1 0, _, _, _] (by kernel_rfl) rfl
            · skip
              repeat' first | (with_reducible apply XAnd.mk) | ((first | (with_reducible apply Chk.go) | (with_reducible apply ChkA.go)); conv => whnf) | (exact XSame.mk rfl rfl) | (with_reducible exact trivial) | ((first | (refine XCall.ret how ?_) | (refine XCall.ret hth ?_) | (refine XCall.ret hdu ?_)); conv => whnf) | (first | ((refine XFree.at 0 rfl ?_); (conv => whnf); exact XSame.mk rfl rfl) | ((refine XFree.at 1 rfl ?_); (conv => whnf); exact XSame.mk rfl rfl)) | fail
            · skip
              repeat' first | (with_reducible apply XAnd.mk) | ((first | (with_reducible apply Chk.go) | (with_reducible apply ChkF.go) | (with_reducible apply ChkB.go)); conv => whnf) | (exact XSame.mk rfl rfl) | (with_reducible exact trivial) | ((first | (refine XCall.ret how ?_) | (refine XCall.ret hth ?_) | (refine XCall.ret hdu ?_)); conv => whnf) | (first | ((refine XFree.at 0 rfl ?_); (conv => whnf); exact XSame.mk rfl rfl) | ((refine XFree.at 1 rfl ?_); (conv => whnf); exact XSame.mk rfl rfl)) | fail
            conv => whnf
            repeat' first | ((first | (with_reducible apply XBr.tt) | (with_reducible apply XBr.ff)); conv => whnf) | ((with_reducible apply XBr.dec) <;> (intro h; first | (exfalso; omega) | ((try simp only [List.length_map] at h); first | (exfalso; omega) | (conv => whnf)))) | ((with_reducible apply XBr.beq) <;> (intro h; first | (exfalso; omega) | (conv => whnf))) | ((with_reducible apply XBr.bne) <;> (intro h; first | (exfalso; omega) | (conv => whnf))) | ((first | (with_reducible refine XInt.i64 (by omega) (by omega) ?_) | ((with_reducible refine XIx.map ?_ ?_ ?_ ?_); omega; omega; (intro _; rfl))); conv => whnf) | (with_reducible apply XAnd.mk) | ((first | (with_reducible apply Chk.go) | (with_reducible apply ChkA.go) | (with_reducible apply ChkF.go) | (with_reducible apply ChkB.go)); conv => whnf) | (exact XSame.mk rfl rfl) | (with_reducible exact trivial) | (apply Walk.drawN (id := 20) tab_ok mixed_ok [] [] (hsU _) [_, _, _, _, _, _, _, _, _, _] (by kernel_rfl) rfl) | ((first | (with_reducible apply XNext.mk) | (refine XCall.ret hco ?_) | (refine XCall.ret hke ?_) | (refine XCall.ret hrk ?_) | (refine XCall.ret hck ?_) | (refine XCall.ret hrf ?_) | (refine XCall.ret hsu ?_) | (refine XIx.vecV 0 rfl (by omega) rfl ?_) | (refine XIx.ivs c0 hc0 (by omega) ?_) | (with_reducible refine XBr.no hbb ?_)); conv => whnf) | fail
            all_goals try (exfalso; omega)
            refine Walk.loopK tab_ok [] [(1, _), (2, _), (3, _), (6, _), (7, _), (8, _), (9, _), (10, _), (13, _), (15, _), (16, _), (17, _)] ⟨rfl, rfl, rfl, rfl, rfl, rfl, rfl, rfl, rfl, rfl, rfl, rfl, trivial⟩ (fun q : Nat × Int => c0 ≤ q.1 ∧ (q.1 : Int) ≤ min b.room (b.first + b.unsure) + 1 ∧ q.2 = if q.1 = c0 then smF b l b.months.length c0 else mnP (smF b l b.months.length) c0 q.1) (fun q => [(14, .int .i64 q.2), (18, natA q.1)]) (fun _ => [.cells (bedC (ownB b)), .cells (bedC (thB b))]) (fun q => (min b.room (b.first + b.unsure) + 1).toNat - q.1) (c0, smF b l b.months.length c0) ⟨Nat.le_refl _, by dsimp only; omega, by dsimp only; rw [if_pos rfl]⟩ rfl ⟨rfl, congrArg (fun z => some (AV.int .i64 z)) hc0, trivial⟩ ?_
            rintro ⟨n, v⟩ ⟨hn1, hn2, hv⟩
            dsimp only at hn1 hn2 hv ⊢
            conv => whnf
            by_cases hln : (n : Int) ≤ min b.room (b.first + b.unsure)
            · skip
              repeat' first | ((with_reducible apply XBr.dec) <;> (intro h; first | (exfalso; omega) | ((try simp only [List.length_map] at h); first | (exfalso; omega) | (conv => whnf)))) | ((first | (with_reducible refine XInt.i64 (by omega) (by omega) ?_) | (refine XIx.ivs n (by omega) (by omega) ?_)); conv => whnf) | fail
              exact XAgain.go (n + 1, min v (smF b l b.months.length n)) ⟨by dsimp only; omega, by dsimp only; omega, mn_min (fun q => (hsm q).1) hn1 hv⟩ (by dsimp only; omega) rfl ⟨rfl, rfl, rfl, rfl, rfl, rfl, rfl, rfl, rfl, rfl, rfl, rfl, rfl, rfl, trivial⟩
            · have hvE : v = mnP (smF b l b.months.length) (leastR b).toNat (ruleN b) := by
                rw [if_neg (by omega)] at hv
                rw [hv, show (leastR b).toNat = c0 by omega, show ruleN b = n by unfold ruleN; omega]
              clear hv
              generalize mnP (smF b l b.months.length) (leastR b).toNat (ruleN b) = sm at hru hvE
              subst hvE
              repeat' first | ((with_reducible apply XBr.dec) <;> (intro h; first | (exfalso; omega) | ((try simp only [List.length_map] at h); first | (exfalso; omega) | (conv => whnf)))) | ((with_reducible refine XInt.i64 (by omega) (by omega) ?_); conv => whnf) | fail
              refine Walk.nilgr 16 27 rfl ?_
              refine Walk.loopGK tab_ok [] [(1, _), (2, _), (3, _), (6, _), (7, _), (8, _), (9, _), (10, _), (13, _), (14, _), (15, _), (152, _)] ⟨rfl, rfl, rfl, rfl, rfl, rfl, rfl, rfl, rfl, rfl, rfl, rfl, trivial⟩ (fun m : Nat => m ≤ b.months.length) (fun m => [(16, .gr 2 m), (153, natA m)]) (fun m => [.cells (bedC (ownB b)), .cells (bedC (thB b)), .grow 27 (decide (m = 0)) (vecF m (rowV b l m))]) (fun m => b.months.length - m) 0 (Nat.zero_le _) ?_ ⟨rfl, rfl, trivial⟩ ?_ (fun _ _ => (show (3 : Nat) ≤ 3 from Nat.le_refl 3)) ?_
              · have e0 : vecF 0 (rowV b l 0) = [] := by rw [vecF_eq]; rfl
                rw [e0]; rfl
              · intro q _
                refine ⟨fun z hz => ?_, fun z hz => ?_⟩
                · simp only [List.mem_cons, List.not_mem_nil, or_false] at hz
                  rcases hz with rfl | rfl | rfl <;> first | exact lowBd _ | exact rowsV_low b l _ _
                · simp only [List.cons_append, List.nil_append, List.mem_cons, List.not_mem_nil, or_false] at hz
                  rcases hz with rfl | rfl | rfl | rfl | rfl | rfl | rfl | rfl | rfl | rfl | rfl | rfl | rfl | rfl <;> first | rfl | exact lowI _ | exact lowBd b
              intro m hm
              by_cases hmM : m < b.months.length
              · have hvl : (vecF m (rowV b l m)).length = m := vecF_len _ _
                have hE1 : vecF m (rowV b l m) ++ [.sl true []] = vecF (m + 1) (rowV b l m) := by
                  rw [vecF_succ]
                  unfold rowV; rw [if_neg (Nat.lt_irrefl m)]
                conv => whnf
                repeat' first | ((with_reducible apply XBr.dec) <;> (intro h; first | (exfalso; omega) | ((try simp only [List.length_map] at h); first | (exfalso; omega) | (conv => whnf)))) | ((with_reducible refine XInt.i64 (by omega) (by omega) ?_); conv => whnf) | ((with_reducible refine XHold.mk ?_ ?_); (first | omega | rfl | decide | exact ⟨rfl, by decide, rfl⟩ | exact wideI _ | exact widePr _ | exact wideSk _ | (unfold Room; constructor <;> ((try simp) <;> omega)) | exact ⟨rfl, by simp only [List.length_map], by unfold Room; constructor <;> ((try simp) <;> omega)⟩ | exact ⟨by omega, by omega, by unfold Room; constructor <;> ((try simp) <;> omega)⟩); conv => whnf) | fail
                refine Walk.nilRowIn 2 m 3 (els := vecF m (rowV b l m) ++ [.sl true []]) rfl (by rw [hE1]; exact rowV_one b l m _) ?_ ?_
                · rw [hE1, vecF_get?, if_pos (by omega)]; unfold rowV; rw [if_neg (by omega)]
                have hone : ∀ n, ∀ x ∈ (vecF (m + 1) (rowV b l m)).set m (.gr 3 n), x.one = true := fun n x hx => by
                  rcases List.mem_or_eq_of_mem_set hx with hx | rfl
                  · exact rowV_one b l m _ x hx
                  · rfl
                refine Walk.loopKW [(1, _), (2, _), (3, _), (6, _), (7, _), (8, _), (9, _), (10, _), (13, _), (14, _), (15, _), (16, .gr 2 (m + 1)), (19, _), (152, _), (153, _), (161, _)] ⟨rfl, rfl, rfl, rfl, rfl, rfl, rfl, rfl, rfl, rfl, rfl, rfl, rfl, rfl, rfl, rfl, trivial⟩ (fun n : Nat => (n : Int) ≤ b.room + 1) (fun n => [(162, natA n)]) (fun n => [.cells (bedC (ownB b)), .cells (bedC (thB b)), .grow 27 false ((vecF (m + 1) (rowV b l m)).set m (.gr 3 (vecF n (rkR b l m)).length)), .grow 3 (vecF n (rkR b l m)).isEmpty (ints (vecF n (rkR b l m)))]) (fun n => (b.room + 1).toNat - n) 0 (by omega) ?_ ⟨rfl, trivial⟩ ?_
                · have e0 : vecF 0 (rkR b l m) = [] := by rw [vecF_eq]; rfl
                  rw [e0, ← hE1]
                  show [_, _, Blk.grow _ false _, _] = [_, _, Blk.grow _ (decide (m = 0) && false) _, _]
                  rw [Bool.and_false]; rfl
                intro n hn
                have hvn : (ints (vecF n (rkR b l m))).length = (vecF n (rkR b l m)).length := ints_len _
                have hvn2 : (vecF n (rkR b l m)).length = n := vecF_len _ _
                have hvl2 : (vecF (m + 1) (rowV b l m)).length = m + 1 := vecF_len _ _
                have hsl : ((vecF (m + 1) (rowV b l m)).set m (.gr 3 (vecF n (rkR b l m)).length)).length = m + 1 := by rw [List.length_set, vecF_len]
                by_cases hnr : (n : Int) ≤ b.room
                · have hrx := rakes04_c (thB b) tok false l hlen q2 m n hmM hnr
                  change Comp Try.prog _ _ (.int .i64 (rkR b l m n)) at hrx
                  refine Walk.run tab_ok [] ?_
                  conv => whnf
                  repeat' first | ((with_reducible apply XBr.dec) <;> (intro h; first | (exfalso; omega) | ((try simp only [List.length_map] at h); first | (exfalso; omega) | (conv => whnf)))) | ((with_reducible refine XInt.i64 (by omega) (by omega) ?_); conv => whnf) | ((with_reducible refine XHold.mk ?_ ?_); (first | omega | rfl | decide | exact ⟨rfl, by decide, rfl⟩ | exact wideI _ | exact widePr _ | exact wideSk _ | (unfold Room; constructor <;> ((try simp) <;> omega)) | exact ⟨rfl, by simp only [List.length_map], by unfold Room; constructor <;> ((try simp) <;> omega)⟩ | exact ⟨by omega, by omega, by unfold Room; constructor <;> ((try simp) <;> omega)⟩); conv => whnf) | (with_reducible apply XAnd.mk) | ((first | (with_reducible apply Chk.go) | (with_reducible apply ChkA.go) | (with_reducible apply ChkF.go) | (with_reducible apply ChkB.go)); conv => whnf) | (exact XSame.mk rfl rfl) | (with_reducible exact trivial) | (apply Walk.drawN (id := 35) tab_ok mixed_ok [] [12, 14] (hsC [_, _, _]) [_, _, _, _, _, _, _, _, _, _, _, _, _, _, _] (by kernel_rfl) rfl) | ((first | (with_reducible apply XNext.mk) | (refine XHold.mk ⟨hsl, rfl, by omega, by omega⟩ ?_) | (refine XGet.set (by omega) (by omega) (by rw [vecF_len]) ?_) | (refine XCall.ret hrx ?_) | (refine XPut.set (by omega) (by omega) (by rw [vecF_len]) ?_)); conv => whnf) | fail
                  have hvs : vecF (n + 1) (rkR b l m) = vecF n (rkR b l m) ++ [rkR b l m n] := by rw [vecF, dif_neg (by omega), Nat.add_sub_cancel]
                  refine XAgain.go (n + 1) (by omega) (by omega) ?_ ⟨rfl, rfl, rfl, rfl, rfl, rfl, rfl, rfl, rfl, rfl, rfl, rfl, rfl, rfl, rfl, rfl, rfl, trivial⟩
                  rw [hvs]
                  show [_, _, Blk.grow _ false (List.set _ m (.gr 3 (vecF n (rkR b l m) ++ [_]).length)), Blk.grow _ (vecF n (rkR b l m) ++ [_]).isEmpty ((vecF n (rkR b l m) ++ [_]).map (AV.int .i64))] = _
                  rw [isEmpty_app, List.map_append, List.length_append]
                  rfl
                · obtain rfl : n = b.room.toNat + 1 := by omega
                  refine Walk.freezeRow 2 m 3 (vecF (b.room.toNat + 1) (rkR b l m)).length rfl (hone _) (by rw [List.getElem?_set_self (by rw [vecF_len]; omega)]) rfl (by decide) hvn ?_
                  refine Walk.run tab_ok [] ?_
                  conv => whnf
                  repeat' first | ((with_reducible apply XBr.dec) <;> (intro h; first | (exfalso; omega) | ((try simp only [List.length_map] at h); first | (exfalso; omega) | (conv => whnf)))) | ((with_reducible refine XInt.i64 (by omega) (by omega) ?_); conv => whnf) | fail
                  refine XAgainG.go (m + 1) [.dead] (by omega) (by omega) ?_ ⟨rfl, rfl, rfl, rfl, rfl, rfl, rfl, rfl, rfl, rfl, rfl, rfl, rfl, rfl, trivial⟩
                  show [_, _, Blk.grow _ false (vecF (m + 1) (rowV b l (m + 1))), Blk.dead] = [_, _, Blk.grow _ false (((vecF (m + 1) (rowV b l m)).set m _).set m (.sl (vecF (b.room.toNat + 1) (rkR b l m)).isEmpty (ints (vecF (b.room.toNat + 1) (rkR b l m))))), Blk.dead]
                  rw [List.set_set, vecF_set']
                  intro i _
                  unfold rowV
                  by_cases hi : i = m
                  · subst hi
                    have e5 : (vecF (b.room.toNat + 1) (rkR b l i)).isEmpty = false := by
                      cases h : vecF (b.room.toNat + 1) (rkR b l i) with
                      | nil => rw [h] at hvn2; simp at hvn2
                      | cons x y => rfl
                    rw [if_pos rfl, if_pos (by omega), e5]; rfl
                  · rw [if_neg hi]
                    by_cases hi2 : i < m
                    · rw [if_pos hi2, if_pos (by omega)]
                    · rw [if_neg hi2, if_neg (by omega)]
              · obtain rfl : m = b.months.length := by omega
                have hz : decide (b.months.length = 0) = false := decide_eq_false (by omega)
                have hRV : vecF b.months.length (rowV b l b.months.length) = rowsA (vecF b.months.length (ruleRow b l)) := by
                  rw [← ruleAs_rows]
                  exact vecF_congr fun i hi => by unfold rowV; rw [if_pos hi]
                have hRl : (rowsA (vecF b.months.length (ruleRow b l))).length = b.months.length := by rw [← hRV, vecF_len]
                have hRw : lowL 0 (rowsA (vecF b.months.length (ruleRow b l))) = true := by rw [← hRV]; exact rowsV_low b l _ _
                rw [hRV, hz]
                conv => whnf
                repeat' first | ((with_reducible apply XBr.dec) <;> (intro h; first | (exfalso; omega) | ((try simp only [List.length_map] at h); first | (exfalso; omega) | (conv => whnf)))) | ((first | (refine XCall.ret hfl ?_) | (refine XCall.ret hru ?_)); conv => whnf) | fail
                refine Walk.norm tab_ok [] [(1, _), (2, _), (3, _), (6, _), (7, _), (8, _), (9, _), (10, _), (12, _), (13, _), (14, _), (15, _), (16, _), (21, _), (22, _), (23, _), (24, _)] ⟨rfl, rfl, rfl, rfl, rfl, rfl, rfl, rfl, rfl, rfl, rfl, rfl, rfl, rfl, rfl, rfl, rfl, trivial⟩ ?_
                conv => whnf
                repeat' first | ((with_reducible apply XBr.tt); conv => whnf) | ((with_reducible apply XBr.beq) <;> (intro h; first | (exfalso; omega) | (conv => whnf))) | ((first | (refine XCall.ret heq ?_) | (refine XCall.lend her (.cons (.low hRw) (.cons (Froz.grow rfl hRl hRw) .nil)) rfl ?_) | (refine XCall.ret hem ?_) | (refine XCall.ret hsa ?_) | (refine XCall.ret awake04_c ?_)); conv => whnf) | fail
                exact ⟨.low rfl⟩
          · have hrk : True := trivial
            rw [if_pos hC] at hke
            generalize courE b floor = C at hC hke hco
            refine Comp.body (T := tab) (res := [.tmp 6]) tab_ok [] Try.func14 rfl (by kernel_rfl) Try.ntmps14 rfl (by simp only [List.length_cons, List.length_nil]; decide) (by simp only [lowL, bedL, AV.low, lowI]; rfl) ?_; conv => whnf
            repeat' first | ((with_reducible apply XBr.ff); conv => whnf) | ((with_reducible apply XBr.dec) <;> (intro h; first | (exfalso; omega) | ((try simp only [List.length_map] at h); first | (exfalso; omega) | (conv => whnf)))) | ((first | ((refine XCall.ret hgr ?_); rw [hg]) | (refine XCall.ret hwi ?_)); conv => whnf) | fail
            refine Walk.place (Walk.place ?_)
            apply Walk.drawX tab_ok mixed_ok [] [6, 7, 8, 10] (fun fl => match fl with
              | [a, b', x, y] => [(bif a then .cells (bif x then bedC (ownB b) else bzero) else .free), (bif b' then .cells (bif y then bedC (thB b) else bzero) else .free)]
              | _ => []) [_, _, _, _, _, _, .ptr 0 0, .ptr 1 0, _, _, _] (by kernel_rfl) rfl
            · skip
              repeat' first | (with_reducible apply XAnd.mk) | ((first | (with_reducible apply Chk.go) | (with_reducible apply ChkA.go)); conv => whnf) | (exact XSame.mk rfl rfl) | (with_reducible exact trivial) | ((first | (refine XCall.ret how ?_) | (refine XCall.ret hth ?_) | (refine XCall.ret hdu ?_)); conv => whnf) | (first | ((refine XFree.at 0 rfl ?_); (conv => whnf); exact XSame.mk rfl rfl) | ((refine XFree.at 1 rfl ?_); (conv => whnf); exact XSame.mk rfl rfl)) | fail
            · skip
              repeat' first | (with_reducible apply XAnd.mk) | ((first | (with_reducible apply Chk.go) | (with_reducible apply ChkF.go) | (with_reducible apply ChkB.go)); conv => whnf) | (exact XSame.mk rfl rfl) | (with_reducible exact trivial) | ((first | (refine XCall.ret how ?_) | (refine XCall.ret hth ?_) | (refine XCall.ret hdu ?_)); conv => whnf) | (first | ((refine XFree.at 0 rfl ?_); (conv => whnf); exact XSame.mk rfl rfl) | ((refine XFree.at 1 rfl ?_); (conv => whnf); exact XSame.mk rfl rfl)) | fail
            conv => whnf
            repeat' first | ((first | (with_reducible apply XBr.tt) | (with_reducible apply XBr.ff)); conv => whnf) | ((with_reducible apply XBr.dec) <;> (intro h; first | (exfalso; omega) | ((try simp only [List.length_map] at h); first | (exfalso; omega) | (conv => whnf)))) | ((with_reducible apply XBr.beq) <;> (intro h; first | (exfalso; omega) | (conv => whnf))) | ((with_reducible apply XBr.bne) <;> (intro h; first | (exfalso; omega) | (conv => whnf))) | ((first | (with_reducible refine XInt.i64 (by omega) (by omega) ?_) | ((with_reducible refine XIx.map ?_ ?_ ?_ ?_); omega; omega; (intro _; rfl))); conv => whnf) | (with_reducible apply XAnd.mk) | ((first | (with_reducible apply Chk.go) | (with_reducible apply ChkA.go) | (with_reducible apply ChkF.go) | (with_reducible apply ChkB.go)); conv => whnf) | (exact XSame.mk rfl rfl) | (with_reducible exact trivial) | (apply Walk.drawN (id := 20) tab_ok mixed_ok [] [] (hsU _) [_, _, _, _, _, _, _, _, _, _] (by kernel_rfl) rfl) | ((first | (with_reducible apply XNext.mk) | (refine XCall.ret hco ?_) | (refine XCall.ret hke ?_) | (refine XCall.ret hck ?_) | (refine XCall.ret hrf ?_) | (refine XCall.ret hsu ?_) | (refine XIx.vecV 0 rfl (by omega) rfl ?_) | (refine XIx.ivs c0 hc0 (by omega) ?_) | (with_reducible refine XBr.no (by decide) ?_)); conv => whnf) | fail
            all_goals try (exfalso; omega)
            refine Walk.loopK tab_ok [] [(1, _), (2, _), (3, _), (6, _), (7, _), (8, _), (9, _), (10, _), (13, _), (15, _), (16, _), (17, _)] ⟨rfl, rfl, rfl, rfl, rfl, rfl, rfl, rfl, rfl, rfl, rfl, rfl, trivial⟩ (fun q : Nat × Int => c0 ≤ q.1 ∧ (q.1 : Int) ≤ min b.room (b.first + b.unsure) + 1 ∧ q.2 = if q.1 = c0 then smF b l b.months.length c0 else mnP (smF b l b.months.length) c0 q.1) (fun q => [(14, .int .i64 q.2), (18, natA q.1)]) (fun _ => [.cells (bedC (ownB b)), .cells (bedC (thB b))]) (fun q => (min b.room (b.first + b.unsure) + 1).toNat - q.1) (c0, smF b l b.months.length c0) ⟨Nat.le_refl _, by dsimp only; omega, by dsimp only; rw [if_pos rfl]⟩ rfl ⟨rfl, congrArg (fun z => some (AV.int .i64 z)) hc0, trivial⟩ ?_
            rintro ⟨n, v⟩ ⟨hn1, hn2, hv⟩
            dsimp only at hn1 hn2 hv ⊢
            conv => whnf
            by_cases hln : (n : Int) ≤ min b.room (b.first + b.unsure)
            · skip
              repeat' first | ((with_reducible apply XBr.dec) <;> (intro h; first | (exfalso; omega) | ((try simp only [List.length_map] at h); first | (exfalso; omega) | (conv => whnf)))) | ((first | (with_reducible refine XInt.i64 (by omega) (by omega) ?_) | (refine XIx.ivs n (by omega) (by omega) ?_)); conv => whnf) | fail
              exact XAgain.go (n + 1, min v (smF b l b.months.length n)) ⟨by dsimp only; omega, by dsimp only; omega, mn_min (fun q => (hsm q).1) hn1 hv⟩ (by dsimp only; omega) rfl ⟨rfl, rfl, rfl, rfl, rfl, rfl, rfl, rfl, rfl, rfl, rfl, rfl, rfl, rfl, trivial⟩
            · have hvE : v = mnP (smF b l b.months.length) (leastR b).toNat (ruleN b) := by
                rw [if_neg (by omega)] at hv
                rw [hv, show (leastR b).toNat = c0 by omega, show ruleN b = n by unfold ruleN; omega]
              clear hv
              generalize mnP (smF b l b.months.length) (leastR b).toNat (ruleN b) = sm at hru hvE
              subst hvE
              repeat' first | ((with_reducible apply XBr.dec) <;> (intro h; first | (exfalso; omega) | ((try simp only [List.length_map] at h); first | (exfalso; omega) | (conv => whnf)))) | ((with_reducible refine XInt.i64 (by omega) (by omega) ?_); conv => whnf) | fail
              refine Walk.nilgr 16 27 rfl ?_
              refine Walk.loopGK tab_ok [] [(1, _), (2, _), (3, _), (6, _), (7, _), (8, _), (9, _), (10, _), (13, _), (14, _), (15, _), (152, _)] ⟨rfl, rfl, rfl, rfl, rfl, rfl, rfl, rfl, rfl, rfl, rfl, rfl, trivial⟩ (fun m : Nat => m ≤ b.months.length) (fun m => [(16, .gr 2 m), (153, natA m)]) (fun m => [.cells (bedC (ownB b)), .cells (bedC (thB b)), .grow 27 (decide (m = 0)) (vecF m (rowV b l m))]) (fun m => b.months.length - m) 0 (Nat.zero_le _) ?_ ⟨rfl, rfl, trivial⟩ ?_ (fun _ _ => (show (3 : Nat) ≤ 3 from Nat.le_refl 3)) ?_
              · have e0 : vecF 0 (rowV b l 0) = [] := by rw [vecF_eq]; rfl
                rw [e0]; rfl
              · intro q _
                refine ⟨fun z hz => ?_, fun z hz => ?_⟩
                · simp only [List.mem_cons, List.not_mem_nil, or_false] at hz
                  rcases hz with rfl | rfl | rfl <;> first | exact lowBd _ | exact rowsV_low b l _ _
                · simp only [List.cons_append, List.nil_append, List.mem_cons, List.not_mem_nil, or_false] at hz
                  rcases hz with rfl | rfl | rfl | rfl | rfl | rfl | rfl | rfl | rfl | rfl | rfl | rfl | rfl | rfl <;> first | rfl | exact lowI _ | exact lowBd b
              intro m hm
              by_cases hmM : m < b.months.length
              · have hvl : (vecF m (rowV b l m)).length = m := vecF_len _ _
                have hE1 : vecF m (rowV b l m) ++ [.sl true []] = vecF (m + 1) (rowV b l m) := by
                  rw [vecF_succ]
                  unfold rowV; rw [if_neg (Nat.lt_irrefl m)]
                conv => whnf
                repeat' first | ((with_reducible apply XBr.dec) <;> (intro h; first | (exfalso; omega) | ((try simp only [List.length_map] at h); first | (exfalso; omega) | (conv => whnf)))) | ((with_reducible refine XInt.i64 (by omega) (by omega) ?_); conv => whnf) | ((with_reducible refine XHold.mk ?_ ?_); (first | omega | rfl | decide | exact ⟨rfl, by decide, rfl⟩ | exact wideI _ | exact widePr _ | exact wideSk _ | (unfold Room; constructor <;> ((try simp) <;> omega)) | exact ⟨rfl, by simp only [List.length_map], by unfold Room; constructor <;> ((try simp) <;> omega)⟩ | exact ⟨by omega, by omega, by unfold Room; constructor <;> ((try simp) <;> omega)⟩); conv => whnf) | fail
                refine Walk.nilRowIn 2 m 3 (els := vecF m (rowV b l m) ++ [.sl true []]) rfl (by rw [hE1]; exact rowV_one b l m _) ?_ ?_
                · rw [hE1, vecF_get?, if_pos (by omega)]; unfold rowV; rw [if_neg (by omega)]
                have hone : ∀ n, ∀ x ∈ (vecF (m + 1) (rowV b l m)).set m (.gr 3 n), x.one = true := fun n x hx => by
                  rcases List.mem_or_eq_of_mem_set hx with hx | rfl
                  · exact rowV_one b l m _ x hx
                  · rfl
                refine Walk.loopKW [(1, _), (2, _), (3, _), (6, _), (7, _), (8, _), (9, _), (10, _), (13, _), (14, _), (15, _), (16, .gr 2 (m + 1)), (19, _), (152, _), (153, _), (161, _)] ⟨rfl, rfl, rfl, rfl, rfl, rfl, rfl, rfl, rfl, rfl, rfl, rfl, rfl, rfl, rfl, rfl, trivial⟩ (fun n : Nat => (n : Int) ≤ b.room + 1) (fun n => [(162, natA n)]) (fun n => [.cells (bedC (ownB b)), .cells (bedC (thB b)), .grow 27 false ((vecF (m + 1) (rowV b l m)).set m (.gr 3 (vecF n (rkR b l m)).length)), .grow 3 (vecF n (rkR b l m)).isEmpty (ints (vecF n (rkR b l m)))]) (fun n => (b.room + 1).toNat - n) 0 (by omega) ?_ ⟨rfl, trivial⟩ ?_
                · have e0 : vecF 0 (rkR b l m) = [] := by rw [vecF_eq]; rfl
                  rw [e0, ← hE1]
                  show [_, _, Blk.grow _ false _, _] = [_, _, Blk.grow _ (decide (m = 0) && false) _, _]
                  rw [Bool.and_false]; rfl
                intro n hn
                have hvn : (ints (vecF n (rkR b l m))).length = (vecF n (rkR b l m)).length := ints_len _
                have hvn2 : (vecF n (rkR b l m)).length = n := vecF_len _ _
                have hvl2 : (vecF (m + 1) (rowV b l m)).length = m + 1 := vecF_len _ _
                have hsl : ((vecF (m + 1) (rowV b l m)).set m (.gr 3 (vecF n (rkR b l m)).length)).length = m + 1 := by rw [List.length_set, vecF_len]
                by_cases hnr : (n : Int) ≤ b.room
                · have hrx := rakes04_c (thB b) tok false l hlen q2 m n hmM hnr
                  change Comp Try.prog _ _ (.int .i64 (rkR b l m n)) at hrx
                  refine Walk.run tab_ok [] ?_
                  conv => whnf
                  repeat' first | ((with_reducible apply XBr.dec) <;> (intro h; first | (exfalso; omega) | ((try simp only [List.length_map] at h); first | (exfalso; omega) | (conv => whnf)))) | ((with_reducible refine XInt.i64 (by omega) (by omega) ?_); conv => whnf) | ((with_reducible refine XHold.mk ?_ ?_); (first | omega | rfl | decide | exact ⟨rfl, by decide, rfl⟩ | exact wideI _ | exact widePr _ | exact wideSk _ | (unfold Room; constructor <;> ((try simp) <;> omega)) | exact ⟨rfl, by simp only [List.length_map], by unfold Room; constructor <;> ((try simp) <;> omega)⟩ | exact ⟨by omega, by omega, by unfold Room; constructor <;> ((try simp) <;> omega)⟩); conv => whnf) | (with_reducible apply XAnd.mk) | ((first | (with_reducible apply Chk.go) | (with_reducible apply ChkA.go) | (with_reducible apply ChkF.go) | (with_reducible apply ChkB.go)); conv => whnf) | (exact XSame.mk rfl rfl) | (with_reducible exact trivial) | (apply Walk.drawN (id := 35) tab_ok mixed_ok [] [12, 14] (hsC [_, _, _]) [_, _, _, _, _, _, _, _, _, _, _, _, _, _, _] (by kernel_rfl) rfl) | ((first | (with_reducible apply XNext.mk) | (refine XHold.mk ⟨hsl, rfl, by omega, by omega⟩ ?_) | (refine XGet.set (by omega) (by omega) (by rw [vecF_len]) ?_) | (refine XCall.ret hrx ?_) | (refine XPut.set (by omega) (by omega) (by rw [vecF_len]) ?_)); conv => whnf) | fail
                  have hvs : vecF (n + 1) (rkR b l m) = vecF n (rkR b l m) ++ [rkR b l m n] := by rw [vecF, dif_neg (by omega), Nat.add_sub_cancel]
                  refine XAgain.go (n + 1) (by omega) (by omega) ?_ ⟨rfl, rfl, rfl, rfl, rfl, rfl, rfl, rfl, rfl, rfl, rfl, rfl, rfl, rfl, rfl, rfl, rfl, trivial⟩
                  rw [hvs]
                  show [_, _, Blk.grow _ false (List.set _ m (.gr 3 (vecF n (rkR b l m) ++ [_]).length)), Blk.grow _ (vecF n (rkR b l m) ++ [_]).isEmpty ((vecF n (rkR b l m) ++ [_]).map (AV.int .i64))] = _
                  rw [isEmpty_app, List.map_append, List.length_append]
                  rfl
                · obtain rfl : n = b.room.toNat + 1 := by omega
                  refine Walk.freezeRow 2 m 3 (vecF (b.room.toNat + 1) (rkR b l m)).length rfl (hone _) (by rw [List.getElem?_set_self (by rw [vecF_len]; omega)]) rfl (by decide) hvn ?_
                  refine Walk.run tab_ok [] ?_
                  conv => whnf
                  repeat' first | ((with_reducible apply XBr.dec) <;> (intro h; first | (exfalso; omega) | ((try simp only [List.length_map] at h); first | (exfalso; omega) | (conv => whnf)))) | ((with_reducible refine XInt.i64 (by omega) (by omega) ?_); conv => whnf) | fail
                  refine XAgainG.go (m + 1) [.dead] (by omega) (by omega) ?_ ⟨rfl, rfl, rfl, rfl, rfl, rfl, rfl, rfl, rfl, rfl, rfl, rfl, rfl, rfl, trivial⟩
                  show [_, _, Blk.grow _ false (vecF (m + 1) (rowV b l (m + 1))), Blk.dead] = [_, _, Blk.grow _ false (((vecF (m + 1) (rowV b l m)).set m _).set m (.sl (vecF (b.room.toNat + 1) (rkR b l m)).isEmpty (ints (vecF (b.room.toNat + 1) (rkR b l m))))), Blk.dead]
                  rw [List.set_set, vecF_set']
                  intro i _
                  unfold rowV
                  by_cases hi : i = m
                  · subst hi
                    have e5 : (vecF (b.room.toNat + 1) (rkR b l i)).isEmpty = false := by
                      cases h : vecF (b.room.toNat + 1) (rkR b l i) with
                      | nil => rw [h] at hvn2; simp at hvn2
                      | cons x y => rfl
                    rw [if_pos rfl, if_pos (by omega), e5]; rfl
                  · rw [if_neg hi]
                    by_cases hi2 : i < m
                    · rw [if_pos hi2, if_pos (by omega)]
                    · rw [if_neg hi2, if_neg (by omega)]
              · obtain rfl : m = b.months.length := by omega
                have hz : decide (b.months.length = 0) = false := decide_eq_false (by omega)
                have hRV : vecF b.months.length (rowV b l b.months.length) = rowsA (vecF b.months.length (ruleRow b l)) := by
                  rw [← ruleAs_rows]
                  exact vecF_congr fun i hi => by unfold rowV; rw [if_pos hi]
                have hRl : (rowsA (vecF b.months.length (ruleRow b l))).length = b.months.length := by rw [← hRV, vecF_len]
                have hRw : lowL 0 (rowsA (vecF b.months.length (ruleRow b l))) = true := by rw [← hRV]; exact rowsV_low b l _ _
                rw [hRV, hz]
                conv => whnf
                repeat' first | ((with_reducible apply XBr.dec) <;> (intro h; first | (exfalso; omega) | ((try simp only [List.length_map] at h); first | (exfalso; omega) | (conv => whnf)))) | ((first | (refine XCall.ret hfl ?_) | (refine XCall.ret hru ?_)); conv => whnf) | fail
                refine Walk.norm tab_ok [] [(1, _), (2, _), (3, _), (6, _), (7, _), (8, _), (9, _), (10, _), (12, _), (13, _), (14, _), (15, _), (16, _), (21, _), (22, _), (23, _), (24, _)] ⟨rfl, rfl, rfl, rfl, rfl, rfl, rfl, rfl, rfl, rfl, rfl, rfl, rfl, rfl, rfl, rfl, rfl, trivial⟩ ?_
                conv => whnf
                repeat' first | ((with_reducible apply XBr.tt); conv => whnf) | ((with_reducible apply XBr.beq) <;> (intro h; first | (exfalso; omega) | (conv => whnf))) | ((first | (refine XCall.ret heq ?_) | (refine XCall.lend her (.cons (.low hRw) (.cons (Froz.grow rfl hRl hRw) .nil)) rfl ?_) | (refine XCall.ret hem ?_) | (refine XCall.ret hsa ?_) | (refine XCall.ret awake04_c ?_)); conv => whnf) | fail
                exact ⟨.low rfl⟩
    · have hns : inZ share 0 b.room = false := Bool.eq_false_iff.2 fun h => hS (inZ_iff.1 h)
      have hE3 : bShareE b share = 3 := by unfold bShareE; rw [if_neg (fun h => h hB), if_pos hns]
      unfold floorA at hfl
      unfold ruleA at hru
      rw [if_pos (by rw [hE3]; decide), hE3] at hfl hru
      have heq := hnil
      have her := hnir
      by_cases hC : courE b floor = 0
      · have hrk := hrk hC
        rw [if_neg (fun h => h hC), if_pos hns] at hke
        rw [hC] at hco
        refine Comp.body (T := tab) (res := [.tmp 6]) tab_ok [] Try.func14 rfl (by kernel_rfl) Try.ntmps14 rfl (by simp only [List.length_cons, List.length_nil]; decide) (by simp only [lowL, bedL, AV.low, lowI]; rfl) ?_; conv => whnf
        repeat' first | ((with_reducible apply XBr.ff); conv => whnf) | ((with_reducible apply XBr.dec) <;> (intro h; first | (exfalso; omega) | ((try simp only [List.length_map] at h); first | (exfalso; omega) | (conv => whnf)))) | ((first | ((refine XCall.ret hgr ?_); rw [hg]) | (refine XCall.ret hwi ?_)); conv => whnf) | fail
        refine Walk.place (Walk.place ?_)
        apply Walk.drawX tab_ok mixed_ok [] [6, 7, 8, 10] (fun fl => match fl with
          | [a, b', x, y] => [(bif a then .cells (bif x then bedC (ownB b) else bzero) else .free), (bif b' then .cells (bif y then bedC (thB b) else bzero) else .free)]
          | _ => []) [_, _, _, _, _, _, .ptr 0 0, .ptr 1 0, _, _, _] (by kernel_rfl) rfl
        · skip
          repeat' first | (with_reducible apply XAnd.mk) | ((first | (with_reducible apply Chk.go) | (with_reducible apply ChkA.go)); conv => whnf) | (exact XSame.mk rfl rfl) | (with_reducible exact trivial) | ((first | (refine XCall.ret how ?_) | (refine XCall.ret hth ?_) | (refine XCall.ret hdu ?_)); conv => whnf) | (first | ((refine XFree.at 0 rfl ?_); (conv => whnf); exact XSame.mk rfl rfl) | ((refine XFree.at 1 rfl ?_); (conv => whnf); exact XSame.mk rfl rfl)) | fail
        · skip
          repeat' first | (with_reducible apply XAnd.mk) | ((first | (with_reducible apply Chk.go) | (with_reducible apply ChkF.go) | (with_reducible apply ChkB.go)); conv => whnf) | (exact XSame.mk rfl rfl) | (with_reducible exact trivial) | ((first | (refine XCall.ret how ?_) | (refine XCall.ret hth ?_) | (refine XCall.ret hdu ?_)); conv => whnf) | (first | ((refine XFree.at 0 rfl ?_); (conv => whnf); exact XSame.mk rfl rfl) | ((refine XFree.at 1 rfl ?_); (conv => whnf); exact XSame.mk rfl rfl)) | fail
        conv => whnf
        repeat' first | ((first | (with_reducible apply XBr.tt) | (with_reducible apply XBr.ff)); conv => whnf) | ((with_reducible apply XBr.dec) <;> (intro h; first | (exfalso; omega) | ((try simp only [List.length_map] at h); first | (exfalso; omega) | (conv => whnf)))) | ((with_reducible apply XBr.beq) <;> (intro h; first | (exfalso; omega) | (conv => whnf))) | ((with_reducible apply XBr.bne) <;> (intro h; first | (exfalso; omega) | (conv => whnf))) | ((first | (refine XCall.ret hco ?_) | (refine XCall.ret hke ?_) | (refine XCall.ret hck ?_) | (refine XCall.ret hfl ?_) | (refine XCall.ret hru ?_) | (with_reducible refine XBr.no (by decide) ?_)); conv => whnf) | fail
        all_goals
          refine Walk.norm tab_ok [] [(1, _), (2, _), (3, _), (6, _), (7, _), (8, _), (9, _), (10, _), (12, _), (13, _), (14, _), (15, _), (16, _), (21, _), (22, _), (23, _), (24, _)] ⟨rfl, rfl, rfl, rfl, rfl, rfl, rfl, rfl, rfl, rfl, rfl, rfl, rfl, rfl, rfl, rfl, rfl, trivial⟩ ?_
          conv => whnf
          repeat' first | ((with_reducible apply XBr.tt); conv => whnf) | ((with_reducible apply XBr.beq) <;> (intro h; first | (exfalso; omega) | (conv => whnf))) | ((first | (refine XCall.ret heq ?_) | (refine XCall.ret her ?_) | (refine XCall.ret hem ?_) | (refine XCall.ret hsa ?_) | (refine XCall.ret awake04_c ?_)); conv => whnf) | fail
        all_goals first | exact ⟨.low rfl⟩ | (exfalso; omega) | (exfalso; simp at h; done)
      · have hrk : True := trivial
        rw [if_pos hC] at hke
        generalize courE b floor = C at hC hke hco
        refine Comp.body (T := tab) (res := [.tmp 6]) tab_ok [] Try.func14 rfl (by kernel_rfl) Try.ntmps14 rfl (by simp only [List.length_cons, List.length_nil]; decide) (by simp only [lowL, bedL, AV.low, lowI]; rfl) ?_; conv => whnf
        repeat' first | ((with_reducible apply XBr.ff); conv => whnf) | ((with_reducible apply XBr.dec) <;> (intro h; first | (exfalso; omega) | ((try simp only [List.length_map] at h); first | (exfalso; omega) | (conv => whnf)))) | ((first | ((refine XCall.ret hgr ?_); rw [hg]) | (refine XCall.ret hwi ?_)); conv => whnf) | fail
        refine Walk.place (Walk.place ?_)
        apply Walk.drawX tab_ok mixed_ok [] [6, 7, 8, 10] (fun fl => match fl with
          | [a, b', x, y] => [(bif a then .cells (bif x then bedC (ownB b) else bzero) else .free), (bif b' then .cells (bif y then bedC (thB b) else bzero) else .free)]
          | _ => []) [_, _, _, _, _, _, .ptr 0 0, .ptr 1 0, _, _, _] (by kernel_rfl) rfl
        · skip
          repeat' first | (with_reducible apply XAnd.mk) | ((first | (with_reducible apply Chk.go) | (with_reducible apply ChkA.go)); conv => whnf) | (exact XSame.mk rfl rfl) | (with_reducible exact trivial) | ((first | (refine XCall.ret how ?_) | (refine XCall.ret hth ?_) | (refine XCall.ret hdu ?_)); conv => whnf) | (first | ((refine XFree.at 0 rfl ?_); (conv => whnf); exact XSame.mk rfl rfl) | ((refine XFree.at 1 rfl ?_); (conv => whnf); exact XSame.mk rfl rfl)) | fail
        · skip
          repeat' first | (with_reducible apply XAnd.mk) | ((first | (with_reducible apply Chk.go) | (with_reducible apply ChkF.go) | (with_reducible apply ChkB.go)); conv => whnf) | (exact XSame.mk rfl rfl) | (with_reducible exact trivial) | ((first | (refine XCall.ret how ?_) | (refine XCall.ret hth ?_) | (refine XCall.ret hdu ?_)); conv => whnf) | (first | ((refine XFree.at 0 rfl ?_); (conv => whnf); exact XSame.mk rfl rfl) | ((refine XFree.at 1 rfl ?_); (conv => whnf); exact XSame.mk rfl rfl)) | fail
        conv => whnf
        repeat' first | ((first | (with_reducible apply XBr.tt) | (with_reducible apply XBr.ff)); conv => whnf) | ((with_reducible apply XBr.dec) <;> (intro h; first | (exfalso; omega) | ((try simp only [List.length_map] at h); first | (exfalso; omega) | (conv => whnf)))) | ((with_reducible apply XBr.beq) <;> (intro h; first | (exfalso; omega) | (conv => whnf))) | ((with_reducible apply XBr.bne) <;> (intro h; first | (exfalso; omega) | (conv => whnf))) | ((first | (refine XCall.ret hco ?_) | (refine XCall.ret hke ?_) | (refine XCall.ret hck ?_) | (refine XCall.ret hfl ?_) | (refine XCall.ret hru ?_) | (with_reducible refine XBr.no (by decide) ?_)); conv => whnf) | fail
        all_goals
          refine Walk.norm tab_ok [] [(1, _), (2, _), (3, _), (6, _), (7, _), (8, _), (9, _), (10, _), (12, _), (13, _), (14, _), (15, _), (16, _), (21, _), (22, _), (23, _), (24, _)] ⟨rfl, rfl, rfl, rfl, rfl, rfl, rfl, rfl, rfl, rfl, rfl, rfl, rfl, rfl, rfl, rfl, rfl, trivial⟩ ?_
          conv => whnf
          repeat' first | ((with_reducible apply XBr.tt); conv => whnf) | ((with_reducible apply XBr.beq) <;> (intro h; first | (exfalso; omega) | (conv => whnf))) | ((first | (refine XCall.ret heq ?_) | (refine XCall.ret her ?_) | (refine XCall.ret hem ?_) | (refine XCall.ret hsa ?_) | (refine XCall.ret awake04_c ?_)); conv => whnf) | fail
        all_goals first | exact ⟨.low rfl⟩ | (exfalso; omega) | (exfalso; simp at h; done)
  · have hE4 : bShareE b share = bedE b := by unfold bShareE; rw [if_pos hB]
    unfold floorA at hfl
    unfold ruleA at hru
    rw [if_pos (by rw [hE4]; exact hB), hE4] at hfl hru
    have heq := hnil
    have her := hnir
    have hrk : True := trivial
    have hC := hBC hB
    rw [hC] at hke hco
    rw [if_pos hB] at hke
    clear hCB hBC hC
    generalize bedE b = B at hB hck hke hco hfl hru
    refine Comp.body (T := tab) (res := [.tmp 6]) tab_ok [] Try.func14 rfl (by kernel_rfl) Try.ntmps14 rfl (by simp only [List.length_cons, List.length_nil]; decide) (by simp only [lowL, bedL, AV.low, lowI]; rfl) ?_; conv => whnf
    repeat' first | ((with_reducible apply XBr.ff); conv => whnf) | ((with_reducible apply XBr.dec) <;> (intro h; first | (exfalso; omega) | ((try simp only [List.length_map] at h); first | (exfalso; omega) | (conv => whnf)))) | ((first | ((refine XCall.ret hgr ?_); rw [hg]) | (refine XCall.ret hwi ?_)); conv => whnf) | fail
    refine Walk.place (Walk.place ?_)
    apply Walk.drawX tab_ok mixed_ok [] [6, 7, 8, 10] (fun fl => match fl with
      | [a, b', x, y] => [(bif a then .cells (bif x then bedC (ownB b) else bzero) else .free), (bif b' then .cells (bif y then bedC (thB b) else bzero) else .free)]
      | _ => []) [_, _, _, _, _, _, .ptr 0 0, .ptr 1 0, _, _, _] (by kernel_rfl) rfl
    · skip
      repeat' first | (with_reducible apply XAnd.mk) | ((first | (with_reducible apply Chk.go) | (with_reducible apply ChkA.go)); conv => whnf) | (exact XSame.mk rfl rfl) | (with_reducible exact trivial) | ((first | (refine XCall.ret how ?_) | (refine XCall.ret hth ?_) | (refine XCall.ret hdu ?_)); conv => whnf) | (first | ((refine XFree.at 0 rfl ?_); (conv => whnf); exact XSame.mk rfl rfl) | ((refine XFree.at 1 rfl ?_); (conv => whnf); exact XSame.mk rfl rfl)) | fail
    · skip
      repeat' first | (with_reducible apply XAnd.mk) | ((first | (with_reducible apply Chk.go) | (with_reducible apply ChkF.go) | (with_reducible apply ChkB.go)); conv => whnf) | (exact XSame.mk rfl rfl) | (with_reducible exact trivial) | ((first | (refine XCall.ret how ?_) | (refine XCall.ret hth ?_) | (refine XCall.ret hdu ?_)); conv => whnf) | (first | ((refine XFree.at 0 rfl ?_); (conv => whnf); exact XSame.mk rfl rfl) | ((refine XFree.at 1 rfl ?_); (conv => whnf); exact XSame.mk rfl rfl)) | fail
    conv => whnf
    repeat' first | ((with_reducible apply XBr.ff); conv => whnf) | ((with_reducible apply XBr.beq) <;> (intro h; first | (exfalso; omega) | (conv => whnf))) | ((with_reducible apply XBr.bne) <;> (intro h; first | (exfalso; omega) | (conv => whnf))) | ((first | (refine XCall.ret hco ?_) | (refine XCall.ret hke ?_) | (refine XCall.ret hck ?_) | (refine XCall.ret hfl ?_) | (refine XCall.ret hru ?_) | (with_reducible refine XBr.no (by decide) ?_)); conv => whnf) | fail
    all_goals
      refine Walk.norm tab_ok [] [(1, _), (2, _), (3, _), (6, _), (7, _), (8, _), (9, _), (10, _), (12, _), (13, _), (14, _), (15, _), (16, _), (21, _), (22, _), (23, _), (24, _)] ⟨rfl, rfl, rfl, rfl, rfl, rfl, rfl, rfl, rfl, rfl, rfl, rfl, rfl, rfl, rfl, rfl, rfl, trivial⟩ ?_
      conv => whnf
      repeat' first | ((with_reducible apply XBr.tt); conv => whnf) | ((with_reducible apply XBr.beq) <;> (intro h; first | (exfalso; omega) | (conv => whnf))) | ((first | (refine XCall.ret heq ?_) | (refine XCall.ret her ?_) | (refine XCall.ret hem ?_) | (refine XCall.ret hsa ?_) | (refine XCall.ret awake04_c ?_)); conv => whnf) | fail
    all_goals first | exact ⟨.low rfl⟩ | (exfalso; omega) | (exfalso; simp at h; done)
end GA
end
