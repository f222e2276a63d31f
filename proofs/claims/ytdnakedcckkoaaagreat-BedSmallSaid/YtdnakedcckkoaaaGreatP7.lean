/- Part 7 of a proof: D44, D45, D54, D55, D50, D64, D38, D46, D37, Abs50, D58, D59, D69, D56, D60, D61, D68. -/
import Derived.Test.YtdnakedcckkoaaaGreatP6
set_option linter.unusedVariables false
set_option linter.unusedSimpArgs false
set_option maxRecDepth 8000
section
namespace GA
open Go Go.RowKit Go.Proofs
theorem zaf (b : Bd) (ok : BedOk b) (m n : Nat) (hm : m < b.months.length) (hn : (n : Int) <= b.room) : Comp Tryz.prog 225 [bedA b, moA (moB b m), natA n] (.int .i64 (lieR b m n)) := by
 have r1 := ok.r1
 have r2 := ok.r2
 have hmo := ok.mo' hm
 have hgb := fun (sp st : Int) (q : InC b m sp st) => gy ok hm (n := n) q
 have hgr := fun (sp st : Int) (q : InC b m sp st) => kf b (moB b m) n sp st (by omega) (by omega) hmo.1 hmo.2.1 (by omega) (by omega) (by have := q.1; omega) (by have := q.2.1; omega) (by have := q.2.2.1; omega) (by have := q.2.2.2; omega)
 change ∀ (sp st : Int) (q : InC b m sp st), Comp Tryz.prog _ _ (.int .i64 (grC b m n sp st)) at hgr
 have hgw : lieR b m n = grC b m n (moB b m).pl (moB b m).th := rfl
 have hlb := yp ok (j := m) (n := n) hm
 refine Comp.body (T := tab) (res := [.tmp 6]) zb [] Tryz.func225 rfl (by kernel_rfl) Tryz.ntmps225 rfl (by simp only [List.length_cons, List.length_nil]; decide) (by simp only [lowL, bedL, moL, AV.low]; rfl) ?_; conv => whnf
 skip
 refine Walk.loopK zb [] [(2, _), (3, _), (4, _), (6, _)] ⟨rfl, rfl, rfl, rfl, trivial⟩ (fun q : Int × Int => (moB b m).pl <= q.1 /\ q.1 <= (moB b m).ph + 1 /\ lieR b m n <= q.2 /\ q.2 <= b.room /\ ((moB b m).pl < q.1 -> q.2 = lieR b m n)) (fun q => [(7, .int .i64 q.2), (8, .int .i64 q.1)]) (fun _ => []) (fun q => ((moB b m).ph + 1 - q.1).toNat) ((moB b m).pl, b.room) ⟨Int.le_refl _, by dsimp only; omega, by dsimp only; omega, Int.le_refl _, fun h => absurd h (by dsimp only; omega)⟩ rfl ⟨rfl, rfl, trivial⟩ ?_
 rintro ⟨sp, v⟩ ⟨h1, h2, h3, h4, h5⟩
 dsimp only at h1 h2 h3 h4 h5 ⊢
 conv => whnf
 by_cases hlt : sp <= (moB b m).ph
 ·skip
  repeat' ((with_reducible first | refine XBr.y fun h => ?_ | refine XBr.n fun h => ?_ | refine XBr.dec (fun h => ?_) fun h => ?_) <;> conv => whnf)
  refine Walk.loopK zb [] [(2, _), (3, _), (4, _), (6, _), (8, _)] ⟨rfl, rfl, rfl, rfl, rfl, trivial⟩ (fun q : Int × Int => (moB b m).tl <= q.1 /\ q.1 <= (moB b m).th + 1 /\ lieR b m n <= q.2 /\ q.2 <= b.room /\ ((moB b m).pl < sp \/ (moB b m).th < q.1 -> q.2 = lieR b m n)) (fun q => [(7, .int .i64 q.2), (9, .int .i64 q.1)]) (fun _ => []) (fun q => ((moB b m).th + 1 - q.1).toNat) ((moB b m).tl, v) ⟨Int.le_refl _, by dsimp only; omega, h3, h4, fun h => h5 (by dsimp only at h; omega)⟩ rfl ⟨rfl, rfl, trivial⟩ ?_
  rintro ⟨st, w⟩ ⟨t1, t2, t3, t4, t5⟩
  dsimp only at t1 t2 t3 t4 t5 ⊢
  conv => whnf
  by_cases hltt : st <= (moB b m).th
  ·have hin : InC b m sp st := ⟨h1, hlt, t1, hltt⟩
   have hg := hgr sp st hin
   have hb := hgb sp st hin
   have hcv : ¬ (moB b m).pl < sp -> (moB b m).th < st + 1 -> grC b m n sp st = lieR b m n := fun a1 a2 => by
    rw [hgw, show sp = (moB b m).pl by omega, show st = (moB b m).th by omega]
   generalize grC b m n sp st = g at hg hb hcv
   repeat' first | ((with_reducible first | refine XBr.y fun h => ?_ | refine XBr.n fun h => ?_ | refine XBr.dec (fun h => ?_) fun h => ?_ | refine XInt.a ?_) <;> conv => whnf) | ((refine za.ret hg ?_); conv => whnf) | fail
   refine zk.go (st + 1, min w g) ⟨by dsimp only; omega, by dsimp only; omega, by dsimp only; omega, by dsimp only; omega, fun h => ?_⟩ (by dsimp only; omega) rfl ⟨rfl, rfl, rfl, rfl, rfl, rfl, rfl, trivial⟩
   dsimp only at h ⊢
   by_cases hp : (moB b m).pl < sp
   ·have := t5 (.inl hp); omega
   ·have := hcv hp (by omega); omega
  ·skip
   repeat' ((with_reducible first | refine XBr.y fun h => ?_ | refine XBr.n fun h => ?_ | refine XBr.dec (fun h => ?_) fun h => ?_ | refine XInt.a ?_) <;> conv => whnf)
   exact zk.go (sp + 1, w) ⟨by dsimp only; omega, by dsimp only; omega, t3, t4, fun _ => t5 (.inr (by omega))⟩ (by dsimp only; omega) rfl ⟨rfl, rfl, rfl, rfl, rfl, rfl, trivial⟩
 ·have := h5 (by omega)
  repeat' ((with_reducible first | refine XBr.y fun h => ?_ | refine XBr.n fun h => ?_ | refine XBr.dec (fun h => ?_) fun h => ?_) <;> conv => whnf)
  exact XOut.int this
theorem refKept_c (b : Bd) (ok : BedOk b) (nl : Bool) (l : List Int) (share : Int) (hl : l.length = b.months.length + 1) (hb : ∀ x ∈ l, 0 <= x /\ x <= b.room) : Comp Tryz.prog 134 [bedA b, .sl nl (ints l), .int .i64 share] (.bool (decide (wE b l share))) := by
 have m1 := ok.m1
 have m2 := ok.m2
 have r1 := ok.r1
 have r2 := ok.r2
 have e1 : ((b.months.map moA).length : Int) = b.months.length := by rw [List.length_map]
 have e2 : ((ints l).length : Int) = b.months.length + 1 := by rw [zm]; omega
 have hlv : ∀ m, m <= b.months.length -> 0 <= l.getD m default /\ l.getD m default <= b.room := fun m hm => hb _ (zB (by omega))
 refine Comp.body (T := tab) (res := [.tmp 6]) zb [] Tryz.func134 rfl (by kernel_rfl) Tryz.ntmps134 rfl (by simp only [List.length_cons, List.length_nil]; decide) (by simp only [lowL, bedL, AV.low, lowI]; rfl) ?_; conv => whnf
 skip
 refine Walk.loopK zb [] [(1, _), (2, _), (3, _)] ⟨rfl, rfl, rfl, trivial⟩ (fun m : Nat => m <= b.months.length /\ ∀ j, j < m -> l.getD (j + 1) default <= lieR b j (l.getD j default).toNat) (fun m => [(7, natA m)]) (fun _ => []) (fun m => b.months.length - m) 0 ⟨Nat.zero_le _, fun j hj => by omega⟩ rfl ⟨rfl, trivial⟩ ?_
 rintro m ⟨hm, hq⟩
 conv => whnf
 by_cases hlt : m < b.months.length
 ·have hv1 := hlv m (by omega)
  have hv2 := hlv (m + 1) (by omega)
  have hlx : l.getD ((m : Int) + 1).toNat default = l.getD (m + 1) default := congrArg (fun z => l.getD z default) (by omega : ((m : Int) + 1).toNat = m + 1)
  have hlm : (((l.getD m default).toNat : Nat) : Int) = l.getD m default := by omega
  repeat' first | ((with_reducible first | refine XBr.y fun h => ?_ | refine XBr.n fun h => ?_ | refine XBr.dec (fun h => ?_) fun h => ?_) <;> conv => whnf) | (refine XIx.a ?_; conv => whnf) | fail
  refine Walk.loopK zb [] [(1, _), (2, _), (3, _), (7, _)] ⟨rfl, rfl, rfl, rfl, trivial⟩ (fun n : Nat => (l.getD m default).toNat <= n /\ (n : Int) <= b.room + 1 /\ ((l.getD m default).toNat < n -> l.getD (m + 1) default <= lieR b m (l.getD m default).toNat)) (fun n => [(8, natA n)]) (fun _ => []) (fun n => (b.room + 1).toNat - n) (l.getD m default).toNat ⟨Nat.le_refl _, by omega, fun h => absurd h (Nat.lt_irrefl _)⟩ rfl ⟨congrArg (fun z => some (AV.int .i64 z)) hlm.symm, trivial⟩ ?_
  rintro n ⟨hn1, hn2, hn3⟩
  conv => whnf
  by_cases hltn : (n : Int) <= b.room
  ·have hsp := zaf b ok m n hlt hltn
   have hmn := ge ok hlt hn1
   have hlb := yp ok (j := m) (n := n) hlt
   have hst : n = (l.getD m default).toNat -> lieR b m n = lieR b m (l.getD m default).toNat := fun h => by rw [h]
   have hno : lieR b m (l.getD m default).toNat < l.getD (m + 1) default -> decide (wE b l share) = false := fun h => decide_eq_false fun k => by
    have := k.1 m hlt; omega
   generalize lieR b m n = v at hsp hmn hlb hst
   generalize lieR b m (l.getD m default).toNat = v0 at hmn hn3 hst hno
   rw [<- hlx] at hv2 hn3 hno
   repeat' first | ((with_reducible first | refine XBr.y fun h => ?_ | refine XBr.n fun h => ?_ | refine XBr.dec (fun h => ?_) fun h => ?_ | refine XInt.a ?_ | apply Chk.go | apply ChkA.go | apply ChkF.go | apply ChkB.go | apply zw.mk) <;> conv => whnf) | ((first | refine XIx.a ?_ | refine XIx.b ?_); conv => whnf) | (with_reducible first | apply XAnd.mk | exact trivial) | (exact zd.mk rfl rfl) | (apply Walk.drawN (id := 7) zb zg [] [] (hsU _) [_, _, _, _, _, _, _, _, _, _, _, _, _, _] (by kernel_rfl) rfl) | ((refine za.ret hsp ?_); conv => whnf) | fail
   ·rw [hno (by omega)]; exact ⟨.low rfl⟩
   ·refine zk.go (n + 1) ⟨by omega, by omega, fun _ => ?_⟩ (by omega) rfl ⟨rfl, rfl, rfl, rfl, rfl, trivial⟩
    rw [<- hlx]
    by_cases he : n = (l.getD m default).toNat
    ·have := hst he; omega
    ·exact hn3 (by omega)
  ·skip
   repeat' ((with_reducible first | refine XBr.y fun h => ?_ | refine XBr.n fun h => ?_ | refine XBr.dec (fun h => ?_) fun h => ?_ | refine XInt.a ?_) <;> conv => whnf)
   exact zk.go (m + 1) ⟨by omega, kx hq (hn3 (by omega))⟩ (by omega) rfl ⟨rfl, rfl, rfl, rfl, trivial⟩
 ·obtain rfl : m = b.months.length := by omega
  repeat' first | ((with_reducible first | refine XBr.y fun h => ?_ | refine XBr.n fun h => ?_ | refine XBr.dec (fun h => ?_) fun h => ?_) <;> conv => whnf) | (refine XIx.a ?_; conv => whnf) | fail
  have hx : (b.months.map moA).length = b.months.length := List.length_map _
  rw [hx]
  have he : decide (share <= l.getD b.months.length default) = decide (wE b l share) := by rw [decide_eq_decide]; exact ⟨fun h => ⟨hq, h⟩, fun h => h.2⟩
  rw [he]; exact ⟨.low rfl⟩
theorem qE (b : Bd) (ok : BedOk b) (nl : Bool) (l : List Int) (hl : l.length = b.months.length + 1) (hb : ∀ x ∈ l, 0 <= x /\ x <= b.room) (m n : Nat) (hm : m < b.months.length) (hn : (n : Int) <= b.room) : Comp Tryz.prog 137 [bedA b, .sl nl (ints l), natA m, natA n] (.int .i64 (rkR b l m n)) := by
 have m2 := ok.m2
 have r2 := ok.r2
 have hsp := zaf b ok m n hm hn
 have hlb := yp ok (j := m) (n := n) hm
 have hv2 : 0 <= l.getD (m + 1) default /\ l.getD (m + 1) default <= b.room := hb _ (zB (by omega))
 have hlx : l.getD ((m : Int) + 1).toNat default = l.getD (m + 1) default := congrArg (fun z => l.getD z default) (by omega : ((m : Int) + 1).toNat = m + 1)
 have e2 : ((ints l).length : Int) = b.months.length + 1 := by rw [zm]; omega
 unfold rkR
 rw [<- hlx] at hv2 ⊢
 refine Comp.body (T := tab) (res := [.tmp 8]) zb [] Tryz.func137 rfl (by kernel_rfl) Tryz.ntmps137 rfl (by simp only [List.length_cons, List.length_nil]; decide) (by simp only [lowL, bedL, AV.low, lowI]; rfl) ?_; conv => whnf
 repeat' first | ((first | (with_reducible first | refine XInt.a ?_ | apply Chk.go | apply ChkA.go | apply ChkF.go | apply ChkB.go | apply zw.mk) | (first | refine XIx.a ?_ | refine XIx.b ?_)); conv => whnf) | (with_reducible first | apply XAnd.mk | exact trivial) | (exact zd.mk rfl rfl) | (apply Walk.drawN (id := 1) zb zg [] [] (hsU _) [_, _, _, _, _, _, _, _, _, _, _, _, _, _, _, _] (by kernel_rfl) rfl) | ((refine za.ret hsp ?_); conv => whnf) | fail
 exact ⟨.low rfl⟩
end GA
end
section
namespace GA
open Go Go.RowKit Go.Proofs
def ivs (W : Nat) (F : Nat -> Int) : List AV := ints (vecF W F)
theorem yM (W : Nat) (F : Nat -> Int) : (ivs W F).length = W := by rw [ivs, zm, zj]
theorem zbN {n : Nat} (W : Nat) (F : Nat -> Int) : lowL n (ivs W F) = true := lowI _
theorem zbL (W : Nat) (v : Int) : List.replicate W (AV.int .i64 v) = ivs W fun _ => v := by unfold ivs ints; rw [zT, List.map_replicate]
theorem yv {W : Nat} {F G : Nat -> Int} (h : ∀ i, i < W -> F i = G i) : ivs W F = ivs W G := congrArg ints (zy h)
theorem XGet.ivs {W : Nat} {F : Nat -> Int} {n e : Nat} {k : List AV -> Prop} (j : Nat) (he : e = j) (h1 : n = W) (h2 : j < W) (h : k [.int .i64 (F j)]) : XGet (ivs W F) n e k := by
 subst he; subst h1
 refine XGet.mapF (f := AV.int .i64) default (by rw [zj]) h2 ?_
 rw [yq _ h2]; exact h
theorem XPut.ivs {W : Nat} {F : Nat -> Int} {n e : Nat} {v : Int} {k : List AV -> Prop} (j : Nat) (he : e = j) (h1 : n = W) (h2 : j < W) (h : k (ivs W (updV F j v))) : XPut (ivs W F) n e (.int .i64 v) k := by
 subst he; subst h1
 refine XPut.map (f := AV.int .i64) v rfl (by rw [zj]) h2 ?_
 rw [yF]; exact h
theorem XIx.ivs {W : Nat} {F : Nat -> Int} {n : Int} {k : AV -> Prop} (i : Nat) (hn : n = i) (h2 : i < W) (h : k (.pim [.int .i64 (F i)])) : XIx (ivs W F) n 1 k := by
 subst hn
 have e : nth (GA.ivs W F) (i : Int) = .int .i64 (F i) := by
  unfold nth
  rw [Int.toNat_natCast, List.getD_eq_getElem?_getD]; unfold GA.ivs; rw [zb4 h2]; rfl
 refine ⟨by omega, by rw [yM]; omega, by rw [e]; rfl, ?_⟩
 rw [e]; exact h
theorem yf {α : Type} (F : Nat -> α) (j : Nat) (v : α) : updV F j v j = v := by unfold updV; rw [if_pos rfl]
theorem zb8 {α : Type} (F : Nat -> α) {j i : Nat} (v : α) (h : i ≠ j) : updV F j v i = F i := by unfold updV; rw [if_neg h]
theorem kR {α : Type} (F : Nat -> α) (j : Nat) (v w : α) : updV (updV F j v) j w = updV F j w := by
 funext i; unfold updV; split <;> rfl
theorem fk {b : Bd} {m n : Nat} {v : Int} (h1 : v <= lieR b m n) (h2 : n <= b.room.toNat) (h3 : ∀ q, q < n -> lieR b m q < v) : yB b m v = some n := by
 unfold yB
 rw [List.find?_range_eq_some]
 exact ⟨decide_eq_true h1, List.mem_range.2 (by omega), fun q hq => by have := h3 q hq; simp; omega⟩
theorem zdv {b : Bd} {m : Nat} {v : Int} (h : ∀ q, q <= b.room.toNat -> lieR b m q < v) : yB b m v = none := by
 unfold yB
 rw [List.find?_range_eq_none]
 exact fun q hq => by have := h q (by omega); simp; omega
theorem zaW {b : Bd} {share : Int} {k : Nat} (h : flrL b share k = none) : ∀ d, flrL b share (k + d) = none
 | 0 => h
 | d + 1 => by rw [show k + (d + 1) = (k + d) + 1 by omega, flrL, zaW h d]
def zbz (b : Bd) (share : Int) : AV := match flrL b share b.months.length with | none => .sl true [] | some l => .sl false (ints l)
set_option maxHeartbeats 1000000 in
theorem zdQ (b : Bd) (ok : BedOk b) (share : Int) (hsh : 0 <= share /\ share <= b.room) : Comp Tryz.prog 135 [bedA b, .int .i64 share] (zbz b share) := by
 have m1 := ok.m1
 have m2 := ok.m2
 have r1 := ok.r1
 have r2 := ok.r2
 have e1 : ((b.months.map moA).length : Int) = b.months.length := by rw [List.length_map]
 have hrep : List.replicate (((b.months.map moA).length : Int) + 1).toNat (AV.int .i64 0) = ivs (b.months.length + 1) fun _ => 0 := by rw [show (((b.months.map moA).length : Int) + 1).toNat = b.months.length + 1 by omega, zbL]
 refine Comp.body (T := tab) (res := [.tmp 4]) zb [] Tryz.func135 rfl (by kernel_rfl) Tryz.ntmps135 rfl (by simp only [List.length_cons, List.length_nil]; decide) (by simp only [lowL, bedL, AV.low]; rfl) ?_; conv => whnf
 repeat' first | ((first | (with_reducible refine XInt.a ?_) | (first | refine zh.a ?_ | (rw [hrep]; refine zh.mk ⟨by rw [yM]; omega, rfl, by omega, by omega⟩ ?_) | refine XPut.ivs b.months.length (by omega) (by omega) (by omega) ?_)); conv => whnf) | fail
 refine Walk.loopK zb [] [(2, _), (5, .gr 0 (b.months.length + 1))] ⟨rfl, by rw [show b.months.length + 1 = (((b.months.map moA).length : Int) + 1).toNat by omega]; rfl, trivial⟩ (fun q : Nat × (Nat -> Int) × List Int => q.1 <= b.months.length /\ flrL b share q.1 = some q.2.2 /\ ∀ j, j <= q.1 -> q.2.2.getD j default = q.2.1 (b.months.length - q.1 + j)) (fun q => [(6, .int .i64 ((b.months.length : Int) - 1 - q.1))]) (fun q => [.grow 3 false (ivs (b.months.length + 1) q.2.1)]) (fun q => b.months.length - q.1) (0, updV (fun _ => 0) b.months.length share, [share]) ⟨Nat.zero_le _, rfl, fun j hj => ?_⟩ rfl ⟨congrArg (fun z => some (AV.int .i64 z)) (by dsimp only; omega), trivial⟩ ?_
 ·dsimp only at hj ⊢
  obtain rfl : j = 0 := by omega
  rw [show b.months.length - 0 + 0 = b.months.length by omega, yf]; rfl
 rintro ⟨k, F, l⟩ ⟨hk, hl, hF⟩
 dsimp only at hk hl hF ⊢
 have hll := wa hl
 have hhd : l.headD 0 = F (b.months.length - k) := by
  have := hF 0 (Nat.zero_le _)
  rw [Nat.add_zero] at this
  rw [<- this]
  cases l with
  | nil => simp at hll
  | cons x l => rfl
 by_cases hlt : k < b.months.length
 ·obtain ⟨m, hm⟩ : ∃ m : Nat, m + 1 + k = b.months.length := ⟨b.months.length - 1 - k, by omega⟩
  have hm6 : (b.months.length : Int) - 1 - k = (m : Int) := by omega
  rw [hm6]
  have hnx : flrL b share (k + 1) = match yB b m (F (m + 1)) with | none => none | some n => some ((n : Int) :: l) := by
   rw [flrL, hl]
   dsimp only
   rw [hhd, show b.months.length - (k + 1) = m by omega, show b.months.length - k = m + 1 by omega] <;> rfl
  conv => whnf
  repeat' first | ((with_reducible first | refine XBr.y fun h => ?_ | refine XBr.n fun h => ?_ | refine XBr.dec (fun h => ?_) fun h => ?_ | refine XInt.a ?_) <;> conv => whnf) | ((first | refine zh.mk ⟨by rw [yM], rfl, by omega, by omega⟩ ?_ | refine XPut.ivs m (by omega) rfl (by omega) ?_); conv => whnf) | fail
  refine Walk.loopK zb [] [(2, _), (5, _), (6, _)] ⟨rfl, rfl, rfl, trivial⟩ (fun n : Int => -1 <= n /\ n <= b.room /\ ∀ q : Nat, n < q -> (q : Int) <= b.room -> F (m + 1) <= lieR b m q) (fun n => [(7, .int .i64 n)]) (fun n => [.grow 3 false (ivs (b.months.length + 1) (updV F m (n + 1)))]) (fun n => (n + 1).toNat) b.room ⟨by omega, Int.le_refl _, fun q h1 h2 => by omega⟩ rfl ⟨rfl, trivial⟩ ?_
  rintro n ⟨hn1, hn2, hge⟩
  have hu : updV F m (n + 1) (m + 1) = F (m + 1) := zb8 _ _ (by omega)
  conv => whnf
  by_cases hn0 : 0 <= n
  ·obtain ⟨nn, rfl⟩ : ∃ nn : Nat, n = nn := ⟨n.toNat, by omega⟩
   have hsp := zaf b ok m nn (by omega) hn2
   have hlb := yp ok (j := m) (n := nn) (by omega)
   have hmn := fun (q : Nat) (h : q <= nn) => ge ok (m := m) (by omega) h
   have hbb : decide ((0 : Int) <= (nn : Int)) = true := decide_eq_true hn0
   apply Walk.drawX zb zg [] [] (hsK _) [_, .bool true, .bool true, _, _, _, _, _, _, _, _, _, _, _, _, _, _, _] (by kernel_rfl) rfl
   ·skip
    repeat' first | ((with_reducible first | apply XBr.tt | refine XInt.a ?_ | apply Chk.go | apply ChkA.go); conv => whnf) | (refine XIx.a ?_; conv => whnf) | (with_reducible first | apply XAnd.mk | exact trivial) | (exact zd.mk rfl rfl) | ((first | (first | refine za.ret hsp ?_ | refine zh.mk ⟨by rw [yM], rfl, by omega, by omega⟩ ?_) | ((refine XGet.ivs (m + 1) (by omega) rfl (by omega) ?_); rw [hu])); conv => whnf) | fail
   ·skip
    repeat' first | ((with_reducible first | apply ChkF.go | apply ChkB.go); conv => whnf) | (with_reducible first | apply XAnd.mk | exact trivial) | fail
   conv => whnf
   refine XBr.dec ?_ ?_ <;> intro hh <;> (conv => whnf)
   ·skip
    repeat' first | ((first | (with_reducible refine XInt.a ?_) | (refine zh.mk ⟨by rw [yM], rfl, by omega, by omega⟩ ?_) | ((refine XPut.ivs m (by omega) rfl (by omega) ?_); rw [kR])); conv => whnf) | fail
    refine zk.go ((nn : Int) - 1) ⟨by omega, by omega, fun q h1 h2 => ?_⟩ (by omega) ?_ ⟨rfl, rfl, rfl, rfl, trivial⟩
    ·by_cases hq : q = nn
     ·rw [hq]; exact hh
     ·exact hge q (by omega) h2
    ·rw [show (nn : Int) - 1 + 1 = nn by omega]
   ·skip
    have hall : ∀ q : Nat, (q : Int) <= (nn : Int) -> lieR b m q < F (m + 1) := fun q hq => by have := hmn q (by omega); have : ¬ F (m + 1) <= lieR b m nn := hh; omega
    repeat' first | ((with_reducible first | refine XBr.y fun h => ?_ | refine XBr.n fun h => ?_ | refine XBr.dec (fun h => ?_) fun h => ?_ | refine XInt.a ?_ | apply Chk.go | apply ChkA.go | apply ChkF.go | apply ChkB.go | apply zw.mk) <;> conv => whnf) | (with_reducible first | apply XAnd.mk | exact trivial) | (exact zd.mk rfl rfl) | (apply Walk.drawN (id := 11) zb zg [] [] (hsU _) [_, _, _, _, _, _, _] (by kernel_rfl) rfl) | ((first | (refine zh.mk ⟨by rw [yM], rfl, by omega, by omega⟩ ?_) | ((refine XGet.ivs m (by omega) rfl (by omega) ?_); rw [yf])); conv => whnf) | fail
    ·skip
     have hno : flrL b share (k + 1) = none := by rw [hnx, zdv fun q hq => hall q (by omega)]
     have := zaW hno m
     rw [show k + 1 + m = b.months.length by omega] at this
     unfold zbz
     rw [this]; exact ⟨.low rfl⟩
    ·skip
     have hso : flrL b share (k + 1) = some (((((nn : Int) + 1).toNat : Nat) : Int) :: l) := by rw [hnx, fk (hge ((nn : Int) + 1).toNat (by omega) (by omega)) (by omega) fun q hq => hall q (by omega)]
     refine zk.go (k + 1, updV F m ((nn : Int) + 1), ((((nn : Int) + 1).toNat : Nat) : Int) :: l) ⟨by dsimp only; omega, hso, fun j hj => ?_⟩ (by dsimp only; omega) rfl ⟨rfl, rfl, congrArg (fun z => some (AV.int .i64 z)) (by dsimp only; omega), trivial⟩
     dsimp only at hj ⊢
     cases j with
     | zero =>
       rw [show b.months.length - (k + 1) + 0 = m by omega, yf]
       show ((((nn : Int) + 1).toNat : Nat) : Int) = (nn : Int) + 1
       omega
     | succ j =>
       have := hF j (by omega)
       rw [show b.months.length - (k + 1) + (j + 1) = b.months.length - k + j by omega, zb8 _ _ (by omega)]
       exact this
  ·obtain rfl : n = -1 := by omega
   have hbb : decide ((0 : Int) <= (-1 : Int)) = false := by decide
   apply Walk.drawX zb zg [] [] (hsK _) [_, .bool false, .bool false, _, _, _, _, _, _, _, _, _, _, _, _, _, _, _] (by kernel_rfl) rfl
   ·skip
    repeat' first | ((with_reducible first | apply XBr.ff | apply Chk.go | apply ChkA.go); conv => whnf) | (with_reducible first | apply XAnd.mk | exact trivial) | (exact zd.mk rfl rfl) | fail
   ·skip
    repeat' first | ((with_reducible first | apply ChkF.go | apply ChkB.go); conv => whnf) | (with_reducible first | apply XAnd.mk | exact trivial) | fail
   conv => whnf
   have hall : ∀ q : Nat, (q : Int) <= (-1) -> lieR b m q < F (m + 1) := fun q hq => by omega
   repeat' first | ((with_reducible first | apply XBr.ff | refine XBr.y fun h => ?_ | refine XBr.n fun h => ?_ | refine XBr.dec (fun h => ?_) fun h => ?_ | refine XInt.a ?_ | apply Chk.go | apply ChkA.go | apply ChkF.go | apply ChkB.go | apply zw.mk) <;> conv => whnf) | (with_reducible first | apply XAnd.mk | exact trivial) | (exact zd.mk rfl rfl) | (apply Walk.drawN (id := 11) zb zg [] [] (hsU _) [_, _, _, _, _, _, _] (by kernel_rfl) rfl) | ((first | (refine zh.mk ⟨by rw [yM], rfl, by omega, by omega⟩ ?_) | ((refine XGet.ivs m (by omega) rfl (by omega) ?_); rw [yf])); conv => whnf) | fail
   have hso : flrL b share (k + 1) = some (((((-1 : Int) + 1).toNat : Nat) : Int) :: l) := by rw [hnx, fk (hge ((-1 : Int) + 1).toNat (by omega) (by omega)) (by omega) fun q hq => hall q (by omega)]
   refine zk.go (k + 1, updV F m ((-1 : Int) + 1), ((((-1 : Int) + 1).toNat : Nat) : Int) :: l) ⟨by dsimp only; omega, hso, fun j hj => ?_⟩ (by dsimp only; omega) rfl ⟨rfl, rfl, congrArg (fun z => some (AV.int .i64 z)) (by dsimp only; omega), trivial⟩
   dsimp only at hj ⊢
   cases j with
   | zero =>
     rw [show b.months.length - (k + 1) + 0 = m by omega, yf]
     show ((((-1 : Int) + 1).toNat : Nat) : Int) = (-1 : Int) + 1
     omega
   | succ j =>
     have := hF j (by omega)
     rw [show b.months.length - (k + 1) + (j + 1) = b.months.length - k + j by omega, zb8 _ _ (by omega)]
     exact this
 ·obtain rfl : k = b.months.length := by omega
  have hle : l = vecF (b.months.length + 1) F := by
   refine vI (d := default) (by rw [zj]; exact hll) fun j hj => ?_
   rw [yq _ (by omega), hF j (by omega), Nat.sub_self, Nat.zero_add]
  conv => whnf
  repeat' ((with_reducible first | refine XBr.y fun h => ?_ | refine XBr.n fun h => ?_ | refine XBr.dec (fun h => ?_) fun h => ?_) <;> conv => whnf)
  unfold zbz
  rw [hl, hle]
  exact ⟨Froz.grow rfl (yM _ _) (zbN _ _)⟩
end GA
end
section
namespace GA
open Go Go.RowKit Go.Proofs
def evrL (b : Bd) : List Int := vecF b.surveys.length fun q => (q : Int)
theorem zdf (b : Bd) : (evrL b).length = b.surveys.length := zj _ _
def ws (b : Bd) : AV := if bedE b ≠ 0 then .tup [.sl true [], .int .i64 (bedE b)] else if (clB b [] || !clB b (evrL b)) = true then .tup [.sl true [], .int .i64 6] else .tup [slA (outL (clsF (clB b) b.surveys.length)), .int .i64 0]
set_option maxHeartbeats 1000000 in
theorem clash_c (b : Bd) (hm : b.months.length <= 100000) (hs : b.surveys.length <= 100000) : Comp Tryz.prog 200 [bedA b] (ws b) := by
 have e2 : ((b.surveys.map suA).length : Int) = b.surveys.length := by rw [List.length_map]
 unfold ws
 by_cases hE : bedE b = 0
 ·have ok := (zz b).1 hE
  have ho := kv b ok
  have s1 := ok.s1
  have hc0 := zab b ok true [] (by simp)
  have hevl : (ints (evrL b)).length = b.surveys.length := by rw [zm, zdf]
  have hc1 := zab b ok false (evrL b) (by rw [zdf]; omega)
  have hmore := fun (q0 : clB b [] = false) (k : Nat) (hk : k <= 8) => more_c b ok q0 k [] 0 (by simp; omega) (by omega)
  have hev0 : List.replicate (((b.surveys.map suA).length : Int)).toNat (AV.int .i64 0) = ivs b.surveys.length fun q => if q < 0 then (q : Int) else 0 := by
   rw [show (((b.surveys.map suA).length : Int)).toNat = b.surveys.length by omega, zbL]
   exact yv fun q _ => by rw [if_neg (by omega)]
  rw [if_neg (fun h => h hE)]
  cases h0 : clB b [] with
  | true =>
    rw [h0] at hc0
    refine Comp.body (T := tab) (res := [.tmp 2, .tmp 3]) zb [] Tryz.func200 rfl (by kernel_rfl) Tryz.ntmps200 rfl (by simp only [List.length_cons, List.length_nil]; decide) (by simp only [lowL, bedL]; rfl) ?_; conv => whnf
    skip
    refine Walk.scope zb [] ?_
    conv => whnf
    repeat' first | ((with_reducible first | refine XBr.y2 fun h => ?_ | refine XBr.n2 fun h => ?_ | refine XBr.bne (fun h => ?_) fun h => ?_) <;> conv => whnf) | ((first | refine zh.a ?_ | refine za.ret ho ?_ | refine zh.mk (by rw [List.length_replicate]) ?_); conv => whnf) | fail
    refine Walk.loopK zb [] [(1, _), (2, _), (3, _), (6, _), (7, .gr 2 b.surveys.length), (26, .int .i64 b.surveys.length)] ⟨rfl, rfl, rfl, rfl, by rw [show b.surveys.length = (((b.surveys.map suA).length : Int)).toNat by omega]; rfl, by rw [show (b.surveys.length : Int) = ((((b.surveys.map suA).length : Int)).toNat : Nat) by omega]; rfl, trivial⟩ (fun i : Nat => i <= b.surveys.length) (fun i => [(27, natA i)]) (fun i => [.cells [dskA b], .cells [.fn 255 [.ptr 0 0]], .grow 3 false (ivs b.surveys.length fun q => if q < i then (q : Int) else 0)]) (fun i => b.surveys.length - i) 0 (Nat.zero_le _) (by rw [<- hev0]) ⟨rfl, trivial⟩ ?_
    intro i hi
    have hvl := yM b.surveys.length fun q => if q < i then (q : Int) else 0
    conv => whnf
    by_cases hlt : i < b.surveys.length
    ·skip
     repeat' first | ((with_reducible first | refine XBr.y fun h => ?_ | refine XBr.n fun h => ?_ | refine XBr.dec (fun h => ?_) fun h => ?_ | refine XInt.a ?_) <;> conv => whnf) | ((first | refine zh.mk ⟨hvl, rfl, by omega, by omega⟩ ?_ | refine XPut.ivs i (by omega) rfl (by omega) ?_); conv => whnf) | fail
     refine zk.go (i + 1) (by omega) (by omega) ?_ ⟨rfl, rfl, rfl, rfl, rfl, rfl, rfl, trivial⟩
     show [_, _, Blk.grow _ false (ivs _ _)] = [_, _, Blk.grow _ false (ivs _ _)]
     refine congrArg (fun z => [_, _, Blk.grow _ false z]) (yv fun q _ => ?_)
     unfold updV
     by_cases hq : q = i
     ·rw [if_pos hq, if_pos (by omega), hq]
     ·rw [if_neg hq]
      show (if q < i + 1 then (q : Int) else 0) = if q < i then (q : Int) else 0
      by_cases hq2 : q < i
      ·rw [if_pos hq2, if_pos (by omega)]
      ·rw [if_neg hq2, if_neg (by omega)]
    obtain rfl : i = b.surveys.length := by omega
    rw [show (ivs b.surveys.length fun q => if q < b.surveys.length then (q : Int) else 0) = ints (evrL b) from yv fun q hq => if_pos hq]
    repeat' first | ((with_reducible first | apply XBr.tt | refine XBr.y fun h => ?_ | refine XBr.n fun h => ?_ | refine XBr.dec (fun h => ?_) fun h => ?_) <;> conv => whnf) | ((refine za.lend hc0 (.cons (.low rfl) (.cons (Froz.ptr rfl (one1 rfl) (.cons (.low (dskL b)) .nil)) .nil)) rfl ?_); conv => whnf) | fail
    exact ⟨.low rfl⟩
  | false =>
    have hmore := hmore h0
    rw [h0] at hc0
    cases h1 : clB b (evrL b) with
    | false =>
      rw [h1] at hc1
      refine Comp.body (T := tab) (res := [.tmp 2, .tmp 3]) zb [] Tryz.func200 rfl (by kernel_rfl) Tryz.ntmps200 rfl (by simp only [List.length_cons, List.length_nil]; decide) (by simp only [lowL, bedL]; rfl) ?_; conv => whnf
      skip
      refine Walk.scope zb [] ?_
      conv => whnf
      repeat' first | ((with_reducible first | refine XBr.y2 fun h => ?_ | refine XBr.n2 fun h => ?_ | refine XBr.bne (fun h => ?_) fun h => ?_) <;> conv => whnf) | ((first | refine zh.a ?_ | refine za.ret ho ?_ | refine zh.mk (by rw [List.length_replicate]) ?_); conv => whnf) | fail
      refine Walk.loopK zb [] [(1, _), (2, _), (3, _), (6, _), (7, .gr 2 b.surveys.length), (26, .int .i64 b.surveys.length)] ⟨rfl, rfl, rfl, rfl, by rw [show b.surveys.length = (((b.surveys.map suA).length : Int)).toNat by omega]; rfl, by rw [show (b.surveys.length : Int) = ((((b.surveys.map suA).length : Int)).toNat : Nat) by omega]; rfl, trivial⟩ (fun i : Nat => i <= b.surveys.length) (fun i => [(27, natA i)]) (fun i => [.cells [dskA b], .cells [.fn 255 [.ptr 0 0]], .grow 3 false (ivs b.surveys.length fun q => if q < i then (q : Int) else 0)]) (fun i => b.surveys.length - i) 0 (Nat.zero_le _) (by rw [<- hev0]) ⟨rfl, trivial⟩ ?_
      intro i hi
      have hvl := yM b.surveys.length fun q => if q < i then (q : Int) else 0
      conv => whnf
      by_cases hlt : i < b.surveys.length
      ·skip
       repeat' first | ((with_reducible first | refine XBr.y fun h => ?_ | refine XBr.n fun h => ?_ | refine XBr.dec (fun h => ?_) fun h => ?_ | refine XInt.a ?_) <;> conv => whnf) | ((first | refine zh.mk ⟨hvl, rfl, by omega, by omega⟩ ?_ | refine XPut.ivs i (by omega) rfl (by omega) ?_); conv => whnf) | fail
       refine zk.go (i + 1) (by omega) (by omega) ?_ ⟨rfl, rfl, rfl, rfl, rfl, rfl, rfl, trivial⟩
       show [_, _, Blk.grow _ false (ivs _ _)] = [_, _, Blk.grow _ false (ivs _ _)]
       refine congrArg (fun z => [_, _, Blk.grow _ false z]) (yv fun q _ => ?_)
       unfold updV
       by_cases hq : q = i
       ·rw [if_pos hq, if_pos (by omega), hq]
       ·rw [if_neg hq]
        show (if q < i + 1 then (q : Int) else 0) = if q < i then (q : Int) else 0
        by_cases hq2 : q < i
        ·rw [if_pos hq2, if_pos (by omega)]
        ·rw [if_neg hq2, if_neg (by omega)]
      obtain rfl : i = b.surveys.length := by omega
      rw [show (ivs b.surveys.length fun q => if q < b.surveys.length then (q : Int) else 0) = ints (evrL b) from yv fun q hq => if_pos hq]
      repeat' first | ((with_reducible first | apply XBr.ff | refine XBr.y fun h => ?_ | refine XBr.n fun h => ?_ | refine XBr.dec (fun h => ?_) fun h => ?_) <;> conv => whnf) | with_reducible apply XBr.not | ((first | refine za.lend hc0 (.cons (.low rfl) (.cons (Froz.ptr rfl (one1 rfl) (.cons (.low (dskL b)) .nil)) .nil)) rfl ?_ | refine za.lend hc1 (.cons (Froz.grow rfl hevl (lowI _)) (.cons (Froz.ptr rfl (one1 rfl) (.cons (.low (dskL b)) .nil)) .nil)) rfl ?_); conv => whnf) | fail
      exact ⟨.low rfl⟩
    | true =>
      rw [h1] at hc1
      have hcx : clsF (clB b) b.surveys.length ≠ none := clsF_ex (by rw [<- h1]; unfold evrL; rw [ya])
      refine Comp.body (T := tab) (res := [.tmp 2, .tmp 3]) zb [] Tryz.func200 rfl (by kernel_rfl) Tryz.ntmps200 rfl (by simp only [List.length_cons, List.length_nil]; decide) (by simp only [lowL, bedL]; rfl) ?_; conv => whnf
      skip
      refine Walk.scope zb [] ?_
      conv => whnf
      repeat' first | ((with_reducible first | refine XBr.y2 fun h => ?_ | refine XBr.n2 fun h => ?_ | refine XBr.bne (fun h => ?_) fun h => ?_) <;> conv => whnf) | ((first | refine zh.a ?_ | refine za.ret ho ?_ | refine zh.mk (by rw [List.length_replicate]) ?_); conv => whnf) | fail
      refine Walk.loopK zb [] [(1, _), (2, _), (3, _), (6, _), (7, .gr 2 b.surveys.length), (26, .int .i64 b.surveys.length)] ⟨rfl, rfl, rfl, rfl, by rw [show b.surveys.length = (((b.surveys.map suA).length : Int)).toNat by omega]; rfl, by rw [show (b.surveys.length : Int) = ((((b.surveys.map suA).length : Int)).toNat : Nat) by omega]; rfl, trivial⟩ (fun i : Nat => i <= b.surveys.length) (fun i => [(27, natA i)]) (fun i => [.cells [dskA b], .cells [.fn 255 [.ptr 0 0]], .grow 3 false (ivs b.surveys.length fun q => if q < i then (q : Int) else 0)]) (fun i => b.surveys.length - i) 0 (Nat.zero_le _) (by rw [<- hev0]) ⟨rfl, trivial⟩ ?_
      intro i hi
      have hvl := yM b.surveys.length fun q => if q < i then (q : Int) else 0
      conv => whnf
      by_cases hlt : i < b.surveys.length
      ·skip
       repeat' first | ((with_reducible first | refine XBr.y fun h => ?_ | refine XBr.n fun h => ?_ | refine XBr.dec (fun h => ?_) fun h => ?_ | refine XInt.a ?_) <;> conv => whnf) | ((first | refine zh.mk ⟨hvl, rfl, by omega, by omega⟩ ?_ | refine XPut.ivs i (by omega) rfl (by omega) ?_); conv => whnf) | fail
       refine zk.go (i + 1) (by omega) (by omega) ?_ ⟨rfl, rfl, rfl, rfl, rfl, rfl, rfl, trivial⟩
       show [_, _, Blk.grow _ false (ivs _ _)] = [_, _, Blk.grow _ false (ivs _ _)]
       refine congrArg (fun z => [_, _, Blk.grow _ false z]) (yv fun q _ => ?_)
       unfold updV
       by_cases hq : q = i
       ·rw [if_pos hq, if_pos (by omega), hq]
       ·rw [if_neg hq]
        show (if q < i + 1 then (q : Int) else 0) = if q < i then (q : Int) else 0
        by_cases hq2 : q < i
        ·rw [if_pos hq2, if_pos (by omega)]
        ·rw [if_neg hq2, if_neg (by omega)]
      obtain rfl : i = b.surveys.length := by omega
      rw [show (ivs b.surveys.length fun q => if q < b.surveys.length then (q : Int) else 0) = ints (evrL b) from yv fun q hq => if_pos hq]
      repeat' first | ((with_reducible first | apply XBr.tt | apply XBr.ff | refine XBr.y fun h => ?_ | refine XBr.n fun h => ?_ | refine XBr.dec (fun h => ?_) fun h => ?_) <;> conv => whnf) | with_reducible apply XBr.not | ((first | refine za.lend hc0 (.cons (.low rfl) (.cons (Froz.ptr rfl (one1 rfl) (.cons (.low (dskL b)) .nil)) .nil)) rfl ?_ | refine za.lend hc1 (.cons (Froz.grow rfl hevl (lowI _)) (.cons (Froz.ptr rfl (one1 rfl) (.cons (.low (dskL b)) .nil)) .nil)) rfl ?_); conv => whnf) | fail
      refine Walk.label ?_
      conv => whnf
      repeat' ((with_reducible refine XInt.a ?_); conv => whnf)
      refine Walk.loopGK zb [] [(1, _), (2, _), (3, _), (6, _), (9, _), (46, _)] ⟨rfl, rfl, rfl, rfl, rfl, rfl, trivial⟩ (fun j : Nat => j <= b.surveys.length + 1 /\ ∀ k, k < j -> yc (clB b) b.surveys.length k [] 0 = none) (fun j => [(47, natA j)]) (fun _ => [.cells [dskA b], .cells [.fn 255 [.ptr 0 0]], .grow 3 false (ints (evrL b)), .cells [slA []]]) (fun j => b.surveys.length + 1 - j) 0 ⟨Nat.zero_le _, fun k hk => by omega⟩ rfl ⟨rfl, trivial⟩ ?_ (fun _ _ => (show (4 : Nat) <= 4 from Nat.le_refl 4)) ?_
      ·intro q _
       refine ⟨fun z hz => ?_, fun z hz => ?_⟩
       ·simp only [List.mem_cons, List.not_mem_nil, or_false] at hz
        rcases hz with rfl | rfl | rfl | rfl
        ·simp only [Blk.low, lowL, dskL]; rfl
        ·rfl
        ·exact lowI _
        ·rfl
       ·simp only [List.cons_append, List.nil_append, List.mem_cons, List.not_mem_nil, or_false] at hz
        rcases hz with rfl | rfl | rfl | rfl | rfl | rfl | rfl <;> first | rfl | exact zY b
      rintro j ⟨hj, hno⟩
      conv => whnf
      by_cases hlt : j < b.surveys.length + 1
      ·have hm := hmore j (by omega)
       cases hR : yc (clB b) b.surveys.length j [] 0 with
       | none =>
         repeat' first | ((with_reducible first | apply XBr.ff | refine XBr.y fun h => ?_ | refine XBr.n fun h => ?_ | refine XBr.dec (fun h => ?_) fun h => ?_ | refine XInt.a ?_) <;> conv => whnf) | (((refine za.more hm rfl 0 1 3 4 (by omega) rfl rfl rfl rfl ?_); rw [hR, show (none : Option (List Int)).isSome = false from rfl]); conv => whnf) | fail
         refine zp.go (j + 1) [.cells [.fn 258 [.ptr 3 0, .ptr 1 0, .pim (bedC b), .ptr 4 0]]] ⟨by omega, fun k hk => ?_⟩ (by omega) rfl ⟨rfl, rfl, rfl, rfl, rfl, rfl, rfl, trivial⟩
         by_cases hk2 : k = j
         ·rw [hk2]; exact hR
         ·exact hno k (by omega)
       | some L =>
         have hcl : clsF (clB b) b.surveys.length = some L := fG (by omega) hno hR
         repeat' first | ((with_reducible first | apply XBr.tt | refine XBr.y fun h => ?_ | refine XBr.n fun h => ?_ | refine XBr.dec (fun h => ?_) fun h => ?_) <;> conv => whnf) | (((refine za.more hm rfl 0 1 3 4 (by omega) rfl rfl rfl rfl ?_); rw [hR, show (some L).isSome = true from rfl]); conv => whnf) | fail
         rw [hcl]
         exact ⟨.low (show lowL 0 [slA L, _] = true by simp only [lowL, qm, AV.low]; rfl)⟩
      ·exfalso
       refine hcx ?_
       unfold clsF
       rw [List.findSome?_eq_none_iff]
       exact fun k hk => hno k (by have := List.mem_range.1 hk; omega)
 ·have ho := kd b hm hs hE
  rw [if_pos hE]
  generalize bedE b = e at ho hE
  refine Comp.body (T := tab) (res := [.tmp 2, .tmp 3]) zb [] Tryz.func200 rfl (by kernel_rfl) Tryz.ntmps200 rfl (by simp only [List.length_cons, List.length_nil]; decide) (by simp only [lowL, bedL]; rfl) ?_; conv => whnf
  skip
  refine Walk.scope zb [] ?_
  conv => whnf
  repeat' first | ((with_reducible first | refine XBr.y2 fun h => ?_ | refine XBr.n2 fun h => ?_ | refine XBr.bne (fun h => ?_) fun h => ?_) <;> conv => whnf) | ((refine za.ret ho ?_); conv => whnf) | fail
  exact ⟨.low rfl⟩
end GA
end
section
namespace GA
open Go Go.RowKit Go.Proofs
def bedG (b : Bd) (i n : Nat) : List AV := [.int .i64 b.room, .int .i64 b.first, .int .i64 b.unsure, .sl b.nlm (b.months.map moA), .gr i n]
end GA
end
section
namespace GA
open Go Go.RowKit Go.Proofs
def addS (b : Bd) (m : Nat) (n : Nat) : Bd := { b with nls := false, surveys := b.surveys ++ [⟨m, n, n⟩] }
theorem zbY {b : Bd} (ok : BedOk b) (m n : Nat) : BedOk (addS b m n) := ⟨ok.r1, ok.r2, ok.m1, ok.m2, ok.f1, ok.f2, ok.u1, ok.u2, ok.mo⟩
def cr (b : Bd) : Nat -> Nat
 | 0 => ((List.range 121).find? (cnB b alwP 0)).getD 0
 | m + 1 => ((lvL b m (cr b m)).find? (cnB b alwP (m + 1))).getD 0
theorem zcj {α : Type} {f : α -> Bool} {l : List α} {x d : α} (hx : x ∈ l) (hf : f x = true) : (l.find? f).getD d ∈ l /\ f ((l.find? f).getD d) = true := by
 cases h : l.find? f with
 | none => exact absurd hf (List.find?_eq_none.1 h x hx)
 | some y => exact ⟨List.mem_of_find?_eq_some h, List.find?_some h⟩
theorem v6 {b : Bd} (ok : BedOk b) (h : zH b alwP = false) : ∀ m, m <= b.months.length -> cnB b alwP m (cr b m) = true
 | 0, _ => by
   obtain ⟨n, h1, h2⟩ := gX ok h 0 (Nat.zero_le _)
   exact (zcj (List.mem_range.2 h1) h2).2
 | m + 1, hm => by
   obtain ⟨k, h1, h2⟩ := v5 ok (by omega) (v6 ok h m (by omega))
   exact (zcj h1 h2).2
theorem cr_nx {b : Bd} (ok : BedOk b) (h : zH b alwP = false) {m : Nat} (hm : m < b.months.length) : cr b (m + 1) ∈ lvL b m (cr b m) := by
 obtain ⟨k, h1, h2⟩ := v5 ok hm (v6 ok h m (by omega))
 exact (zcj h1 h2).1
theorem cn_ag {b : Bd} {p : Nat -> Bool} {m n : Nat} (hm : m <= b.months.length) (h : cnB b p m n = true) : agB b p m n = true := by
 have hf := cn_ah h
 unfold ahF at hf
 rw [Bool.and_eq_true] at hf
 have hf := hf.2
 cases hk : b.months.length - m with
 | zero => rw [hk, ahB] at hf; rwa [show b.months.length = m by omega] at hf
 | succ k => rw [hk, ahB, Bool.and_eq_true] at hf; have := hf.2; rwa [show b.months.length - (k + 1) = m by omega] at this
theorem cr_crs {b : Bd} (ok : BedOk b) (h : zH b alwP = false) : Crs b alwP (cr b) := by
 refine ⟨?_, fun m hm => yr (v6 ok h m hm), fun m hm => cn_ag hm (v6 ok h m hm), fun m hm => cr_nx ok h hm⟩
 have := v6 ok h 0 (Nat.zero_le _)
 rw [cnB, Bool.and_eq_true] at this
 exact this.2
def crL (b : Bd) (k : Nat) : List Int := vecF k fun m => (cr b m : Int)
end GA
end
section
namespace GA
open Go Go.RowKit Go.Proofs
theorem amList_g (F : Nat -> Bool) : yz Tryz.prog 103 [amA F] (.gr 0 (lstF F 121).length) [.grow 3 (lstF F 121).isEmpty (ints (lstF F 121))] := by
 refine yz.body (T := tab) (res := [.tmp 2]) zb [] Tryz.func103 rfl (by kernel_rfl) Tryz.ntmps103 rfl (by simp only [List.length_cons, List.length_nil]; decide) (by simp only [lowL, amL]; rfl) rfl (fun x hx => by simp only [List.mem_cons, List.not_mem_nil, or_false] at hx; subst hx; exact lowI _) ?_; conv => whnf
 repeat' ((refine ka rfl ?_); conv => whnf)
 refine Walk.nilgr 3 3 rfl ?_
 refine Walk.loopK zb [] [(2, _), (6, _)] ⟨rfl, rfl, trivial⟩ (fun n : Nat => n <= 121) (fun n => [(3, .gr 0 (lstF F n).length), (7, natA n)]) (fun n => [.grow 3 (lstF F n).isEmpty (ints (lstF F n))]) (fun n => 121 - n) 0 (Nat.zero_le _) rfl ⟨rfl, rfl, trivial⟩ ?_
 intro n hn
 have hs := kw F n
 have hl := yR F n
 have hl2 : (ints (lstF F n)).length = (lstF F n).length := zm _
 generalize hc : F n = s at hs
 conv => whnf
 repeat' first | ((with_reducible first | refine XBr.y fun h => ?_ | refine XBr.n fun h => ?_ | refine XBr.dec (fun h => ?_) fun h => ?_ | refine XInt.a ?_) <;> conv => whnf) | (refine zh.a ?_; conv => whnf) | (((refine kZ n (by omega) (by omega) ?_); rw [hc]); conv => whnf) | ((with_reducible refine XBr.mk' (fun h => ?_) fun h => ?_) <;> conv => whnf) | fail
 all_goals try subst h
 ·rw [if_pos rfl] at hs
  refine zk.go (n + 1) (by omega) (by omega) ?_ ⟨rfl, rfl, ?_, rfl, trivial⟩
  ·rw [hs]
   show [Blk.grow _ (lstF F n ++ [(n : Int)]).isEmpty ((lstF F n ++ [(n : Int)]).map (AV.int .i64))] = _
   rw [zD, List.map_append]; rfl
  ·show some (AV.gr 0 ((lstF F n).length + 1)) = _
   rw [hs, List.length_append]; rfl
 ·rw [if_neg (by simp)] at hs
  exact zk.go (n + 1) (by omega) (by omega) (by rw [hs]) ⟨rfl, rfl, by rw [hs]; rfl, rfl, trivial⟩
 ·obtain rfl : n = 121 := by omega
  exact wO.mk' [0] rfl (by decide) ⟨congrArg some (jM _ _ _ _).symm, trivial⟩ rfl
theorem za.amList {F : Nat -> Bool} {H : List Blk} {k : AV -> List Blk -> Prop} (hk : k (.gr H.length (lstF F 121).length) (H ++ [.grow 3 (lstF F 121).isEmpty (ints (lstF F 121))])) : za Tryz.prog 103 [amA F] H k := by
 refine za.give (amList_g F) ?_
 rw [List.map_cons, jM, List.map_nil]; exact hk
def esT (g : Nat) (b : Bd) : Nat -> List (Int × AV)
 | 0 => []
 | j + 1 => mput (b.surveys.getD j default).m (.gr (g + (b.surveys.getD j default).m.toNat) (rowS b (j + 1) (b.surveys.getD j default).m.toNat).length) (esT g b j)
theorem esT_get (g : Nat) (b : Bd) (hm : ∀ s ∈ b.surveys, 0 <= s.m) : ∀ j, j <= b.surveys.length -> ∀ k : Nat, mget (k : Int) (esT g b j) = if (rowS b j k).isEmpty = true then none else some (.gr (g + k) (rowS b j k).length)
 | 0, _, k => rfl
 | j + 1, hj, k => by
   have h0 := hm _ (zB (xs := b.surveys) (i := j) (d := default) (by omega))
   show mget (k : Int) (mput _ _ (esT g b j)) = _
   rw [qV, esT_get g b hm j (by omega) k]
   have hr := kX b j k
   generalize hmm : (b.surveys.getD j default).m = m at h0 hr
   by_cases h : (k : Int) = m
   ·have e : m.toNat = k := by omega
    rw [if_pos h, e, hr, if_pos h.symm, if_neg (by simp)]
   ·rw [if_neg (fun e => h e.symm)] at hr
    rw [if_neg h, hr]
theorem esT_low (g : Nat) (b : Bd) (hm : ∀ s ∈ b.surveys, 0 <= s.m /\ s.m <= 10) : ∀ j, j <= b.surveys.length -> lowL (g + 11) ((esT g b j).map (·.2)) = true
 | 0, _ => rfl
 | j + 1, hj => by
   have h0 := hm _ (zB (xs := b.surveys) (i := j) (d := default) (by omega))
   refine fI _ _ ?_ _ (esT_low g b hm j (by omega))
   simp only [AV.low, decide_eq_true_eq]; omega
theorem zbr (q : Int) (v u : AV) : ∀ {es es' : List (Int × AV)}, es.map (·.1) = es'.map (·.1) -> (mput q v es).map (·.1) = (mput q u es').map (·.1)
 | [], [], _ => rfl
 | [], _ :: _, h => by cases h
 | _ :: _, [], h => by cases h
 | (m, x) :: l, (m', x') :: l', h => by
   have h1 : m = m' := (List.cons.inj h).1
   have h2 : l.map (·.1) = l'.map (·.1) := (List.cons.inj h).2
   subst h1
   show ((if m = q then (m, v) :: l else (m, x) :: mput q v l).map (·.1)) = ((if m = q then (m, u) :: l' else (m, x') :: mput q u l').map (·.1))
   split
   ·exact congrArg (List.cons m) h2
   ·exact congrArg (List.cons m) (zbr q v u h2)
theorem zan (g : Nat) (b : Bd) : ∀ j, (esT g b j).map (·.1) = (esS b j).map (·.1)
 | 0 => rfl
 | j + 1 => zbr _ _ _ (zan g b j)
theorem zct (g : Nat) (b : Bd) (hm : ∀ s ∈ b.surveys, 0 <= s.m /\ s.m <= 10) : ∀ j, j <= b.surveys.length -> ∀ p ∈ esT g b j, 0 <= p.1 /\ p.1 <= 10 /\ p.2 = .gr (g + p.1.toNat) (rowS b j p.1.toNat).length
 | 0, _, p, hp => by cases hp
 | j + 1, hj, p, hp => by
   have h0 := hm _ (zB (xs := b.surveys) (i := j) (d := default) (by omega))
   have hnd : ((esT g b j).map (·.1)).Nodup := by rw [zan]; exact esS_nd b j
   rcases fS hnd p hp with rfl | ⟨h1, h2⟩
   ·exact ⟨h0.1, h0.2, rfl⟩
   ·obtain ⟨h3, h4, h5⟩ := zct g b hm j (by omega) p h1
    refine ⟨h3, h4, ?_⟩
    rw [h5, kX, if_neg (by omega)]
theorem addS_k {b : Bd} (ok : BdOk b) {m n : Nat} (hm : m <= b.months.length) (hn : (n : Int) <= b.room) : BdK (addS b m n) := by
 refine ⟨zbY ok.toBedOk m n, ?_, fun s hs => ?_⟩
 ·show (b.surveys ++ [_]).length <= 9
  rw [List.length_append]; have := ok.s1; simp; omega
 ·have hs' : s ∈ b.surveys ++ [⟨m, n, n⟩] := hs
  rw [List.mem_append, List.mem_singleton] at hs'
  rcases hs' with h | rfl
  ·exact ok.su s h
  ·show (0 : Int) <= m /\ (m : Int) <= (b.months.length : Int) /\ (0 : Int) <= n /\ (n : Int) <= n /\ (n : Int) <= b.room
   omega
def k0 (b : Bd) (month amount : Int) : AV :=
 if bedE b ≠ 0 then .tup [.sl true [], .int .i64 (bedE b)]
 else if inZ month 0 b.months.length = false then .tup [.sl true [], .int .i64 1]
 else if inZ amount 0 b.room = false then .tup [.sl true [], .int .i64 3]
 else if zH (addS b month.toNat amount.toNat) alwP = true then .tup [.sl true [], .int .i64 6]
 else .tup [.sl false (ints (crL (addS b month.toNat amount.toNat) (b.months.length + 1))), .int .i64 0]
end GA
end
section
namespace GA
open Go Go.RowKit Go.Proofs
theorem courE_2 {b : Bd} {c : List Int} (h : bedE b = 0) (h2 : (c.length : Int) ≠ b.months.length + 1) : zK b c = 2 := by unfold zK; rw [if_neg (fun h' => h' h), if_pos h2]
theorem courE_3 {b : Bd} {c : List Int} (h : bedE b = 0) (h2 : ¬ (c.length : Int) ≠ b.months.length + 1) (h3 : c.all (fun x => inZ x 0 b.room) = false) : zK b c = 3 := by unfold zK; rw [if_neg (fun h' => h' h), if_neg h2, if_pos h3]
theorem wx (b : Bd) (nl : Bool) (c : List Int) (h1 : b.months.length <= 100000) (h2 : b.surveys.length <= 100000) (h3 : c.length <= 100000) : Comp Tryz.prog 132 [bedA b, .sl nl (ints c)] (.int .i64 (zK b c)) := by
 have hc := yd b h1 h2
 have e1 : ((b.months.map moA).length : Int) = b.months.length := by rw [List.length_map]
 have e2 : ((ints c).length : Int) = c.length := by rw [zm]
 by_cases hb : bedE b = 0
 ·rw [hb] at hc
  refine Comp.body (T := tab) (res := [.tmp 4]) zb [] Tryz.func132 rfl (by kernel_rfl) Tryz.ntmps132 rfl (by simp only [List.length_cons, List.length_nil]; decide) (by simp only [lowL, bedL, AV.low, lowI]; rfl) ?_; conv => whnf
  repeat' first | ((with_reducible first | refine XBr.y2 fun h => ?_ | refine XBr.n2 fun h => ?_ | refine XBr.bne (fun h => ?_) fun h => ?_ | refine XInt.a ?_) <;> conv => whnf) | ((refine za.ret hc ?_); conv => whnf) | fail
  ·exact XOut.int (courE_2 hb (by rw [e1, e2] at *; omega)).symm
  have hlen : ¬ (c.length : Int) ≠ b.months.length + 1 := by rw [e1, e2] at *; omega
  refine Walk.loopK zb [] [(1, _), (2, _)] ⟨rfl, rfl, trivial⟩ (fun k : Nat => k <= c.length /\ ∀ j, j < k -> inZ (c.getD j default) 0 b.room = true) (fun k => [(6, natA k)]) (fun _ => []) (fun k => c.length - k) 0 ⟨Nat.zero_le _, fun j hj => by omega⟩ rfl ⟨rfl, trivial⟩ ?_
  rintro k ⟨hk, hks⟩
  conv => whnf
  by_cases hlt : k < c.length
  ·have hE : inZ (c.getD k default) 0 b.room = false -> zK b c = 3 := fun h => courE_3 hb hlen (jw (p := fun x => inZ x 0 b.room) hlt h)
   have hgo : inZ (c.getD k default) 0 b.room = true -> ∀ j, j < k + 1 -> inZ (c.getD j default) 0 b.room = true := fun h => kx hks h
   have hof := zZ (c.getD k default) 0 b.room
   generalize inZ (c.getD k default) 0 b.room = r at hE hgo hof
   repeat' first | ((with_reducible first | refine XBr.y fun h => ?_ | refine XBr.n fun h => ?_ | refine XBr.dec (fun h => ?_) fun h => ?_ | refine XInt.a ?_ | apply Chk.go | apply ChkA.go | apply ChkF.go | apply ChkB.go | apply zw.mk) <;> conv => whnf) | (refine XIx.a ?_; conv => whnf) | (with_reducible first | apply XBr.not | apply XAnd.mk | exact trivial) | (exact zd.mk rfl rfl) | (apply Walk.drawN (id := 9) zb zg [] [] (hsU _) [_, _, _, _, _, _, _] (by kernel_rfl) rfl) | ((refine za.ret hof ?_); conv => whnf) | ((with_reducible refine XBr.mk' (fun h => ?_) fun h => ?_) <;> conv => whnf) | fail
   ·exact zk.go (k + 1) ⟨by omega, hgo h⟩ (by omega) rfl ⟨rfl, rfl, rfl, trivial⟩
   ·exact XOut.int (hE h).symm
  ·obtain rfl : k = c.length := by omega
   repeat' ((with_reducible first | refine XBr.y fun h => ?_ | refine XBr.n fun h => ?_ | refine XBr.dec (fun h => ?_) fun h => ?_) <;> conv => whnf)
   refine XOut.int ?_
   unfold zK
   rw [if_neg (fun h' => h' hb), if_neg hlen, if_neg (by rw [j5 (p := fun x => inZ x 0 b.room) (d := default) hks]; simp)]
 ·have hE : zK b c = bedE b := by unfold zK; rw [if_pos hb]
  rw [hE]
  generalize bedE b = e at hc hb
  refine Comp.body (T := tab) (res := [.tmp 4]) zb [] Tryz.func132 rfl (by kernel_rfl) Tryz.ntmps132 rfl (by simp only [List.length_cons, List.length_nil]; decide) (by simp only [lowL, bedL, AV.low, lowI]; rfl) ?_; conv => whnf
  repeat' first | ((with_reducible first | refine XBr.y2 fun h => ?_ | refine XBr.n2 fun h => ?_ | refine XBr.bne (fun h => ?_) fun h => ?_) <;> conv => whnf) | ((refine za.ret hc ?_); conv => whnf) | fail
  exact ⟨.low rfl⟩
theorem wY (b : Bd) (v : Bool) (hs : b.surveys.length <= 100000) : Comp Tryz.prog 219 [bedA b, .bool v] (.sl false (bls b.surveys.length fun _ => v)) := by
 have e1 : ((b.surveys.map suA).length : Int) = b.surveys.length := by rw [List.length_map]
 have e3 : (((b.surveys.map suA).length : Int)).toNat = b.surveys.length := by rw [e1, Int.toNat_natCast]
 refine Comp.body (T := tab) (res := [.tmp 4]) zb [] Tryz.func219 rfl (by kernel_rfl) Tryz.ntmps219 rfl (by simp only [List.length_cons, List.length_nil]; decide) (by simp only [lowL, bedL, AV.low]; rfl) ?_; conv => whnf
 repeat' (refine zh.a ?_; conv => whnf)
 refine Walk.loopK zb [] [(1, _), (4, _), (5, .gr 0 b.surveys.length)] ⟨rfl, rfl, by rw [<- e3]; rfl, trivial⟩ (fun k : Nat => k <= b.surveys.length) (fun k => [(6, natA k)]) (fun k => [.grow 4 false (bls b.surveys.length fun i => decide (i < k) && v)]) (fun k => b.surveys.length - k) 0 (Nat.zero_le _) ?_ ⟨rfl, trivial⟩ ?_
 ·show [Blk.grow _ false (bls _ _)] = [Blk.grow _ false (List.replicate _ _)]
  rw [e3, bls0]
  refine congrArg (fun z => [Blk.grow _ false z]) (congrArg (List.map AV.bool) (zy fun i hi => ?_))
  rw [decide_eq_false (by omega)]; rfl
 intro k hk
 have hin := fun (i : Nat) => show updV (fun i : Nat => decide (i < k) && v) k v i = (decide (i < k + 1) && v) by
  unfold updV
  split
  ·rename_i e; subst e; rw [decide_eq_true (by omega)]; rfl
  ·rw [show decide (i < k + 1) = decide (i < k) by rw [decide_eq_decide]; omega]
 conv => whnf
 by_cases hlt : k < b.surveys.length
 ·skip
  repeat' first | ((with_reducible first | refine XBr.y fun h => ?_ | refine XBr.n fun h => ?_ | refine XBr.dec (fun h => ?_) fun h => ?_ | refine XInt.a ?_) <;> conv => whnf) | ((first | refine zh.mk (z9 _ _) ?_ | refine zh.mk ⟨z9 _ _, rfl, by omega, by omega⟩ ?_ | refine XPut.bls k (by omega) rfl (by omega) ?_); conv => whnf) | fail
  exact zk.go (k + 1) (by omega) (by omega) (congrArg (fun z => [Blk.grow _ false z]) (congrArg (List.map AV.bool) (zy fun i hi => (hin i).symm))) ⟨rfl, rfl, rfl, rfl, trivial⟩
 ·obtain rfl : k = b.surveys.length := by omega
  repeat' first | ((with_reducible first | refine XBr.y fun h => ?_ | refine XBr.n fun h => ?_ | refine XBr.dec (fun h => ?_) fun h => ?_) <;> conv => whnf) | ((refine zh.mk (z9 _ _) ?_); conv => whnf) | fail
  have hv : bls b.surveys.length (fun _ => v) = bls b.surveys.length fun i => decide (i < b.surveys.length) && v := congrArg (List.map AV.bool) (zy fun i hi => by rw [decide_eq_true hi]; rfl)
  rw [hv]
  exact ⟨Froz.grow rfl (z9 _ _) (kC _ _)⟩
theorem wA (b : Bd) (nl : Bool) (p : Nat -> Bool) (m n : Nat) (hs : b.surveys.length <= 100000) : Comp Tryz.prog 229 [bedA b, .sl nl (bls b.surveys.length p), natA m, natA n] (.bool (agB b p m n)) := by
 have e1 : ((b.surveys.map suA).length : Int) = b.surveys.length := by rw [List.length_map]
 refine Comp.body (T := tab) (res := [.tmp 8]) zb [] Tryz.func229 rfl (by kernel_rfl) Tryz.ntmps229 rfl (by simp only [List.length_cons, List.length_nil]; decide) (by simp only [lowL, bedL, AV.low, kC]; rfl) ?_; conv => whnf
 skip
 refine Walk.loopGK zb [] [(1, _), (2, _), (3, _), (4, _)] ⟨rfl, rfl, rfl, rfl, trivial⟩ (fun k : Nat => k <= b.surveys.length /\ ∀ j, j < k -> (suB b j).m = m -> p j = true -> (suB b j).lo <= n /\ (n : Int) <= (suB b j).hi) (fun k => [(9, natA k)]) (fun _ => []) (fun k => b.surveys.length - k) 0 ⟨Nat.zero_le _, fun j hj => by omega⟩ rfl ⟨rfl, trivial⟩ ?_ (fun _ _ => Nat.le_refl _) ?_
 ·intro k _
  refine ⟨by simp, fun z hz => ?_⟩
  simp only [List.cons_append, List.nil_append, List.mem_cons, List.not_mem_nil, or_false] at hz
  rcases hz with rfl | rfl | rfl | rfl | rfl <;> first | rfl | exact kC _ _ | exact zY b
 rintro k ⟨hk, hks⟩
 conv => whnf
 by_cases hlt : k < b.surveys.length
 ·have hno : (suB b k).m = m -> p k = true -> ¬ ((suB b k).lo <= n /\ (n : Int) <= (suB b k).hi) -> agB b p m n = false := fun h1 h2 h3 => by
   cases h : agB b p m n with
   | false => rfl
   | true => exact absurd (jN.1 h k hlt h1 h2) h3
  have hgo : ((suB b k).m = m -> p k = true -> (suB b k).lo <= n /\ (n : Int) <= (suB b k).hi) -> ∀ j, j < k + 1 -> (suB b j).m = m -> p j = true -> (suB b j).lo <= n /\ (n : Int) <= (suB b j).hi := fun h => kx hks h
  have hsu : b.surveys.getD k default = suB b k := rfl
  have hof := zZ n (suB b k).lo (suB b k).hi
  have hi := zx (n := n) (lo := (suB b k).lo) (hi := (suB b k).hi)
  generalize inZ (n : Int) (suB b k).lo (suB b k).hi = r at hof hi
  generalize hp : p k = q at hno hgo
  cases q <;> cases r
  all_goals
   repeat' first | ((with_reducible first | refine XBr.y fun h => ?_ | refine XBr.n fun h => ?_ | refine XBr.dec (fun h => ?_) fun h => ?_) <;> conv => whnf) | (refine XIx.a ?_; conv => whnf) | fail
   refine Walk.norm zb [] [(1, _), (2, _), (3, _), (4, _), (9, _), (10, _)] ⟨rfl, rfl, rfl, rfl, rfl, rfl, trivial⟩ ?_
   conv => whnf
   repeat' first | ((with_reducible first | apply XBr.tt | apply XBr.ff | refine XBr.y1 fun h => ?_ | refine XBr.n1 fun h => ?_ | refine XBr.beq (fun h => ?_) fun h => ?_ | refine XInt.a ?_) <;> conv => whnf) | with_reducible apply XBr.not | ((first | ((refine XIx.bls k rfl (by omega) ?_); rw [hp]) | (refine za.ret hof ?_)); conv => whnf) | fail
   all_goals first | (rw [hno h rfl (fun h' => by have := hi.2 h'; cases this)]; exact ⟨.low rfl⟩) | (refine zp.go (k + 1) [.cells (suA (suB b k)).cells] ⟨by omega, hgo fun h1 h2 => ?_⟩ (by omega) rfl ⟨rfl, rfl, rfl, rfl, rfl, trivial⟩; first | exact absurd h2 (by decide) | exact hi.1 rfl | exact absurd h1 h)
 ·obtain rfl : k = b.surveys.length := by omega
  repeat' ((with_reducible first | refine XBr.y fun h => ?_ | refine XBr.n fun h => ?_ | refine XBr.dec (fun h => ?_) fun h => ?_) <;> conv => whnf)
  rw [jN.2 hks]; exact ⟨.low rfl⟩
end GA
end
section
namespace GA
open Go Go.RowKit Go.Proofs
theorem mnP_at {F : Nat -> Int} {lo : Nat} : ∀ c, lo < c -> (∀ q, lo <= q -> q < c -> 0 <= F q) -> ∃ q, lo <= q /\ q < c /\ mnP F lo c = F q
 | 0, h, _ => by omega
 | c + 1, h, hF => by
   rw [wP (by omega)]
   unfold mnS
   split
   ·exact ⟨c, by omega, by omega, rfl⟩
   ·rename_i hn
    by_cases hlo : lo = c
    ·subst hlo
     rw [vr] at hn; omega
    ·obtain ⟨q, h1, h2, h3⟩ := mnP_at c (by omega) fun q a b => hF q a (by omega)
     exact ⟨q, h1, by omega, h3⟩
def valC (b : Bd) (l : List Int) (m k n : Nat) (x y : Int) : Int := rkR b l m n + smF b l k (grC b m n x y - rkR b l m n).toNat
structure MI (b : Bd) (l : List Int) (m k n : Nat) (D : Int -> Int -> Prop) (first : Bool) (v : Int) : Prop where
 a : first = true -> ∀ x y, InC b m x y -> ¬ D x y
 c : first = false -> (∀ x y, InC b m x y -> D x y -> v <= valC b l m k n x y) /\ ∃ x y, InC b m x y /\ v = valC b l m k n x y
theorem MI.to {b : Bd} {l : List Int} {m k n : Nat} {D D' : Int -> Int -> Prop} {first : Bool} {v : Int} (h : MI b l m k n D first v) (hd : ∀ x y, InC b m x y -> (D' x y ↔ D x y)) : MI b l m k n D' first v :=
 ⟨fun h1 x y h2 h3 => h.a h1 x y h2 ((hd x y h2).1 h3), fun h1 => ⟨fun x y h2 h3 => (h.c h1).1 x y h2 ((hd x y h2).1 h3), (h.c h1).2⟩⟩
theorem MI.put {b : Bd} {l : List Int} {m k n : Nat} {D D' : Int -> Int -> Prop} {first : Bool} {v sp st : Int} (h : MI b l m k n D first v) (hin : InC b m sp st) (hd : ∀ x y, InC b m x y -> (D' x y ↔ D x y \/ (x = sp /\ y = st))) (hv : first = true \/ valC b l m k n sp st < v) : MI b l m k n D' false (valC b l m k n sp st) := by
 refine ⟨fun h1 => (by cases h1), fun _ => ⟨fun x y h2 h3 => ?_, sp, st, hin, rfl⟩⟩
 rcases (hd x y h2).1 h3 with h4 | ⟨rfl, rfl⟩
 ·cases first with
  | true => exact absurd h4 (h.a rfl x y h2)
  | false =>
    have := (h.c rfl).1 x y h2 h4
    rcases hv with hv | hv
    ·cases hv
    ·omega
 ·exact Int.le_refl _
theorem MI.skip {b : Bd} {l : List Int} {m k n : Nat} {D D' : Int -> Int -> Prop} {v sp st : Int} (h : MI b l m k n D false v) (hd : ∀ x y, InC b m x y -> (D' x y ↔ D x y \/ (x = sp /\ y = st))) (hv : ¬ valC b l m k n sp st < v) : MI b l m k n D' false v := by
 refine ⟨fun h1 => (by cases h1), fun _ => ⟨fun x y h2 h3 => ?_, (h.c rfl).2⟩⟩
 rcases (hd x y h2).1 h3 with h4 | ⟨rfl, rfl⟩
 ·exact (h.c rfl).1 x y h2 h4
 ·omega
theorem MI.all {b : Bd} (ok : BedOk b) {l : List Int} (hl : ∀ j, j <= b.months.length -> 0 <= l.getD j default /\ l.getD j default <= b.room) {m k n : Nat} (hm : b.months.length = m + (k + 1)) (hn : l.getD m default <= n) (hr : (n : Int) <= b.room) {D : Int -> Int -> Prop} {first : Bool} {v : Int} (h : MI b l m k n D first v) (hd : ∀ x y, InC b m x y -> D x y) : v = smF b l (k + 1) n := by
 have hmM : m < b.months.length := by omega
 have hin := inC_worst ok hmM
 cases first with
 | true => exact absurd (hd _ _ hin) (h.a rfl _ _ hin)
 | false =>
   obtain ⟨h1, x0, y0, h2, h3⟩ := h.c rfl
   have hmo := ok.mo' hmM
   have hsb := smF_b ok hl k (by omega)
   have hrk := rkR_b ok hl (n := n) hmM
   have hgb := gbR_b ok (n := n) hmM
   have hgx := fun x y (q : InC b m x y) => gy ok hmM (n := n) q
   have hhi : hiR b m n + (moB b m).r = gbR b m n := by unfold hiR gbR; omega
   have hb := mnP_b (F := smF b l k) (B := 120 * (k : Int)) (by omega) (lo := (lieR b m n - rkR b l m n).toNat) (gbR b m n - rkR b l m n + 1).toNat (by omega) fun q _ _ => hsb q
   obtain ⟨q0, q1, q2, q3⟩ := mnP_at (F := smF b l k) (lo := (lieR b m n - rkR b l m n).toNat) (gbR b m n - rkR b l m n + 1).toNat (by omega) fun q _ _ => (hsb q).1
   rw [smF, show b.months.length - (k + 1) = m by omega, if_pos ⟨hn, hr⟩]
   have hx0 := hgx x0 y0 h2
   have e1 := hb.2.2.2 (grC b m n x0 y0 - rkR b l m n).toNat (by omega) (by omega)
   obtain ⟨x, y, p1, p2, p3, p4, p5⟩ := boxR (room := b.room) (g := (moB b m).g) (a := n) (v := q0 + rkR b l m n) (show (moB b m).pl <= (moB b m).ph by omega) (show (moB b m).tl <= (moB b m).th by omega) (by show lieR b m n <= _; omega) (by show _ <= gbR b m n; omega)
   have e2 := h1 x y ⟨p1, p2, p3, p4⟩ (hd x y ⟨p1, p2, p3, p4⟩)
   have e3 : grC b m n x y = q0 + rkR b l m n := p5
   unfold valC at e2 h3
   rw [e3, show ((q0 : Int) + rkR b l m n - rkR b l m n).toNat = q0 by omega] at e2
   omega
theorem XGet.vecV {W : Nat} {R : Nat -> AV} {n e : Nat} {k : List AV -> Prop} (j : Nat) (he : e = j) (h1 : n = W) (h2 : j < W) (h : k (R j).cells) : XGet (vecF W R) n e k := by
 subst he; subst h1
 exact ⟨(zj _ _).symm, h2, by rw [yq _ h2]; exact h⟩
theorem XPut.vecV {W : Nat} {R : Nat -> AV} {n e : Nat} {v : AV} {k : List AV -> Prop} (j : Nat) (he : e = j) (h1 : n = W) (h2 : j < W) (h : k (vecF W (updV R j v))) : XPut (vecF W R) n e v k := by
 subst he; subst h1
 exact ⟨(zj _ _).symm, h2, by rw [yF]; exact h⟩
def zbn (b : Bd) (l : List Int) (m : Nat) : AV := .sl false (ivs (b.room + 1).toNat fun n => smF b l (b.months.length - m) n)
def km (b : Bd) (l : List Int) (j i : Nat) : AV := if b.months.length < i + j then zbn b l i else .sl true []
theorem vA {n : Nat} (b : Bd) (l : List Int) (j i : Nat) : (km b l j i).low n = true := by
 unfold km; split
 ·exact zbN _ _
 ·rfl
def sumsA (b : Bd) (l : List Int) : AV := .sl false (vecF (b.months.length + 1) (zbn b l))
set_option maxHeartbeats 1000000 in
theorem sums_c (b : Bd) (ok : BedOk b) (nl : Bool) (l : List Int) (hl : l.length = b.months.length + 1) (hb : ∀ x ∈ l, 0 <= x /\ x <= b.room) : Comp Tryz.prog 136 [bedA b, .sl nl (ints l)] (sumsA b l) := by
 have m1 := ok.m1
 have m2 := ok.m2
 have r1 := ok.r1
 have r2 := ok.r2
 have e1 : ((b.months.map moA).length : Int) = b.months.length := by rw [List.length_map]
 have e2 : ((ints l).length : Int) = b.months.length + 1 := by rw [zm]; omega
 have hlv : ∀ m, m <= b.months.length -> 0 <= l.getD m default /\ l.getD m default <= b.room := fun m hm => hb _ (zB (by omega))
 have hsm := smF_b ok hlv
 have hrep : List.replicate (((b.months.map moA).length : Int) + 1).toNat (AV.sl true []) = vecF (b.months.length + 1) (km b l 0) := by
  rw [show (((b.months.map moA).length : Int) + 1).toNat = b.months.length + 1 by omega, <- zT]
  exact zy fun i hi => by unfold km; rw [if_neg (by omega)]
 refine Comp.body (T := tab) (res := [.tmp 4]) zb [] Tryz.func136 rfl (by kernel_rfl) Tryz.ntmps136 rfl (by simp only [List.length_cons, List.length_nil]; decide) (by simp only [lowL, bedL, AV.low, lowI]; rfl) ?_; conv => whnf
 repeat' first | ((with_reducible refine XInt.a ?_); conv => whnf) | (refine zh.a ?_; conv => whnf) | fail
 refine Walk.loopGK zb [] [(1, _), (2, _), (5, .gr 0 (b.months.length + 1))] ⟨rfl, rfl, by rw [show b.months.length + 1 = (((b.months.map moA).length : Int) + 1).toNat by omega]; rfl, trivial⟩ (fun j : Nat => j <= b.months.length + 1) (fun j => [(6, .int .i64 ((b.months.length : Int) - j))]) (fun j => [.grow 22 false (vecF (b.months.length + 1) (km b l j))]) (fun j => b.months.length + 1 - j) 0 (Nat.zero_le _) (by rw [<- hrep]) ⟨congrArg (fun z => some (AV.int .i64 z)) (by omega), trivial⟩ ?_ (fun _ _ => (show (1 : Nat) <= 1 from Nat.le_refl 1)) ?_
 ·intro q _
  refine ⟨fun z hz => ?_, fun z hz => ?_⟩
  ·rw [List.mem_singleton] at hz; subst hz; exact y5 fun _ _ => vA _ _ _ _
  ·simp only [List.cons_append, List.nil_append, List.mem_cons, List.not_mem_nil, or_false] at hz
   rcases hz with rfl | rfl | rfl | rfl <;> first | rfl | exact zY b | exact lowI _
 intro j hj
 have hvl : (vecF (b.months.length + 1) (km b l j)).length = b.months.length + 1 := zj _ _
 by_cases hjM : j <= b.months.length
 ·obtain ⟨m, hm⟩ : ∃ m : Nat, m + j = b.months.length := ⟨b.months.length - j, by omega⟩
  have hm6 : (b.months.length : Int) - j = (m : Int) := by omega
  have hlm := hlv m (by omega)
  have hlmn : (((l.getD m default).toNat : Nat) : Int) = l.getD m default := by omega
  have hm6' : (b.months.length : Int) - (j + 1 : Nat) = (m : Int) - 1 := by omega
  rw [hm6]
  have hrow0 : List.replicate (b.room + 1).toNat (AV.int .i64 0) = ivs (b.room + 1).toNat fun q => if q < (l.getD m default).toNat then smF b l j q else 0 := by
   rw [zbL]
   refine yv fun q hq => ?_
   split
   ·rename_i h
    cases j with
    | zero => rfl
    | succ k => rw [smF, show b.months.length - (k + 1) = m by omega, if_neg (by omega)]
   ·rfl
  conv => whnf
  repeat' first | ((with_reducible first | refine XBr.y fun h => ?_ | refine XBr.n fun h => ?_ | refine XBr.dec (fun h => ?_) fun h => ?_ | refine XInt.a ?_) <;> conv => whnf) | ((first | refine zh.a ?_ | refine XIx.a ?_); conv => whnf) | fail
  refine Walk.thenFreeze 7 1 (b.room + 1).toNat ?_
  refine Walk.loopGK zb [] [(1, _), (2, _), (5, _), (6, _), (7, _)] ⟨rfl, rfl, rfl, rfl, rfl, trivial⟩ (fun n : Nat => (l.getD m default).toNat <= n /\ (n : Int) <= b.room + 1 /\ (j = 0 -> n = (l.getD m default).toNat)) (fun n => [(8, natA n)]) (fun n => [.grow 22 false (vecF (b.months.length + 1) (km b l j)), .grow 3 false (ivs (b.room + 1).toNat fun q => if q < n then smF b l j q else 0)]) (fun n => (b.room + 1).toNat - n) (l.getD m default).toNat ⟨Nat.le_refl _, by omega, fun _ => rfl⟩ (by rw [<- hrow0]) ⟨congrArg (fun z => some (AV.int .i64 z)) hlmn.symm, trivial⟩ ?_ (fun _ _ => (show (2 : Nat) <= 2 from Nat.le_refl 2)) ?_
  ·intro q _
   refine ⟨fun z hz => ?_, fun z hz => ?_⟩
   ·simp only [List.mem_cons, List.not_mem_nil, or_false] at hz
    rcases hz with rfl | rfl
    ·exact y5 fun _ _ => vA _ _ _ _
    ·exact zbN _ _
   ·simp only [List.cons_append, List.nil_append, List.mem_cons, List.not_mem_nil, or_false] at hz
    rcases hz with rfl | rfl | rfl | rfl | rfl | rfl <;> first | rfl | exact zY b | exact lowI _
  rintro n ⟨hn1, hn2, hn3⟩
  conv => whnf
  by_cases hgo : 0 < j /\ (n : Int) <= b.room
  ·obtain ⟨hj0, hnr⟩ := hgo
   obtain ⟨k, rfl⟩ : ∃ k, j = k + 1 := ⟨j - 1, by omega⟩
   have hmM : m < b.months.length := by omega
   have hmo := ok.mo' hmM
   have hrk := qE b ok nl l hl hb m n hmM hnr
   have hrb := rkR_b ok hlv (n := n) hmM
   have hgb := fun (sp st : Int) (q : InC b m sp st) => gy ok hmM (n := n) q
   have hgr := fun (sp st : Int) (q : InC b m sp st) => kf b (moB b m) n sp st (by omega) (by omega) hmo.1 hmo.2.1 (by omega) (by omega) (by have := q.1; omega) (by have := q.2.1; omega) (by have := q.2.2.1; omega) (by have := q.2.2.2; omega)
   change ∀ (sp st : Int) (q : InC b m sp st), Comp Tryz.prog _ _ (.int .i64 (grC b m n sp st)) at hgr
   have hrow : km b l (k + 1) (m + 1) = .sl false (ivs (b.room + 1).toNat fun n => smF b l k n) := by
    unfold km zbn
    rw [if_pos (by omega), show b.months.length - (m + 1) = k by omega]
   have hall := fun (D : Int -> Int -> Prop) first v (h : MI b l m k n D first v) hd => h.all ok hlv (show b.months.length = m + (k + 1) by omega) (by omega) hnr hd
   repeat' first | ((with_reducible first | apply XBr.tt | refine XBr.y fun h => ?_ | refine XBr.n fun h => ?_ | refine XBr.dec (fun h => ?_) fun h => ?_) <;> conv => whnf) | ((first | refine XIx.a ?_ | refine za.ret hrk ?_); conv => whnf) | fail
   refine Walk.loopK zb [] [(1, _), (2, _), (5, _), (6, _), (7, _), (8, _), (9, _), (10, _)] ⟨rfl, rfl, rfl, rfl, rfl, rfl, rfl, rfl, trivial⟩ (fun q : Int × Bool × Int => (moB b m).pl <= q.1 /\ q.1 <= (moB b m).ph + 1 /\ MI b l m k n (fun x _ => x < q.1) q.2.1 q.2.2) (fun q => [(11, .bool q.2.1), (12, .int .i64 q.1)]) (fun q => [.grow 22 false (vecF (b.months.length + 1) (km b l (k + 1))), .grow 3 false (ivs (b.room + 1).toNat (updV (fun q => if q < n then smF b l (k + 1) q else 0) n q.2.2)), .cells (moC (moB b m))]) (fun q => ((moB b m).ph + 1 - q.1).toNat) ((moB b m).pl, true, 0) ⟨Int.le_refl _, by dsimp only; omega, ⟨fun _ x y h1 h2 => absurd h1.1 (by dsimp only at h2; omega), fun h => (by cases h)⟩⟩ ?_ ⟨rfl, rfl, trivial⟩ ?_
   ·show [_, Blk.grow _ false (ivs _ _), _] = [_, Blk.grow _ false (ivs _ _), _]
    refine congrArg (fun z => [_, Blk.grow _ false z, _]) (yv fun i _ => ?_)
    unfold updV
    split
    ·rename_i h; rw [if_neg (by omega)]
    ·rfl
   rintro ⟨sp, first, v⟩ ⟨h1, h2, hM⟩
   dsimp only at h1 h2 hM ⊢
   conv => whnf
   by_cases hlts : sp <= (moB b m).ph
   ·skip
    repeat' ((with_reducible first | refine XBr.y fun h => ?_ | refine XBr.n fun h => ?_ | refine XBr.dec (fun h => ?_) fun h => ?_) <;> conv => whnf)
    refine Walk.loopK zb [] [(1, _), (2, _), (5, _), (6, _), (7, _), (8, _), (9, _), (10, _), (12, _)] ⟨rfl, rfl, rfl, rfl, rfl, rfl, rfl, rfl, rfl, trivial⟩ (fun q : Int × Bool × Int => (moB b m).tl <= q.1 /\ q.1 <= (moB b m).th + 1 /\ MI b l m k n (fun x y => x < sp \/ (x = sp /\ y < q.1)) q.2.1 q.2.2) (fun q => [(11, .bool q.2.1), (13, .int .i64 q.1)]) (fun q => [.grow 22 false (vecF (b.months.length + 1) (km b l (k + 1))), .grow 3 false (ivs (b.room + 1).toNat (updV (fun q => if q < n then smF b l (k + 1) q else 0) n q.2.2)), .cells (moC (moB b m))]) (fun q => ((moB b m).th + 1 - q.1).toNat) ((moB b m).tl, first, v) ⟨Int.le_refl _, by dsimp only; omega, hM.to fun x y h => by have := h.2.2.1; dsimp only; omega⟩ rfl ⟨rfl, rfl, trivial⟩ ?_
    rintro ⟨st, first, v⟩ ⟨t1, t2, hM⟩
    dsimp only at t1 t2 hM ⊢
    conv => whnf
    by_cases hltt : st <= (moB b m).th
    ·have hin : InC b m sp st := ⟨h1, hlts, t1, hltt⟩
     have hg := hgr sp st hin
     have hgx := hgb sp st hin
     have hput := fun h => hM.put (D' := fun x y => x < sp \/ (x = sp /\ y < st + 1)) hin (fun x y _ => by omega) h
     have hskip : first = false -> ¬ valC b l m k n sp st < v -> MI b l m k n (fun x y => x < sp \/ (x = sp /\ y < st + 1)) false v := fun hf h => by
      subst hf
      exact hM.skip (sp := sp) (st := st) (fun x y _ => by omega) h
     have hvb := hsm k (by omega) (grC b m n sp st - rkR b l m n).toNat
     unfold valC at hput hskip
     generalize grC b m n sp st = g at hg hgx hput hskip hvb
     generalize hrz : rkR b l m n = rk at hput hskip hvb hrb
     have hsf : (fun n => smF b l k n) (g - rk).toNat = smF b l k (g - rk).toNat := rfl
     cases first
     ·skip
      repeat' first | ((with_reducible first | apply XBr.ff | refine XBr.y fun h => ?_ | refine XBr.n fun h => ?_ | refine XBr.dec (fun h => ?_) fun h => ?_ | refine XInt.a ?_ | apply Chk.go | apply ChkA.go | apply ChkF.go | apply ChkB.go | apply zw.mk) <;> conv => whnf) | (with_reducible first | apply XAnd.mk | exact trivial) | (exact zd.mk rfl rfl) | (apply Walk.drawN (id := 17) zb zg [] [] (hsU _) [_, _, _, _, _, _, _, _, _, _, _, _, _, _, _, _, _, _, _] (by kernel_rfl) rfl) | ((first | (first | refine za.ret hg ?_ | refine zh.mk ⟨hvl, rfl, by omega, by omega⟩ ?_) | ((refine XGet.vecV (m + 1) (by omega) rfl (by omega) ?_); rw [hrow]) | (first | refine XIx.ivs (g - rk).toNat (by omega) (by omega) ?_ | refine zh.mk ⟨by rw [yM], rfl, by omega, by omega⟩ ?_) | ((refine XGet.ivs n (by omega) rfl (by omega) ?_); rw [yf]) | ((refine XPut.ivs n (by omega) rfl (by omega) ?_); rw [kR])); conv => whnf) | fail
      all_goals first
       | exact zk.go (st + 1, false, rk + smF b l k (g - rk).toNat) ⟨by dsimp only; omega, by dsimp only; omega, hput (.inr (by omega))⟩ (by dsimp only; omega) rfl ⟨rfl, rfl, rfl, rfl, rfl, rfl, rfl, rfl, rfl, rfl, rfl, trivial⟩
       | exact zk.go (st + 1, false, v) ⟨by dsimp only; omega, by dsimp only; omega, hskip rfl (by omega)⟩ (by dsimp only; omega) rfl ⟨rfl, rfl, rfl, rfl, rfl, rfl, rfl, rfl, rfl, rfl, rfl, trivial⟩
     ·skip
      repeat' first | ((with_reducible first | apply XBr.tt | refine XBr.y fun h => ?_ | refine XBr.n fun h => ?_ | refine XBr.dec (fun h => ?_) fun h => ?_ | refine XInt.a ?_ | apply Chk.go | apply ChkA.go | apply ChkF.go | apply ChkB.go | apply zw.mk) <;> conv => whnf) | (with_reducible first | apply XAnd.mk | exact trivial) | (exact zd.mk rfl rfl) | (apply Walk.drawN (id := 17) zb zg [] [] (hsU _) [_, _, _, _, _, _, _, _, _, _, _, _, _, _, _, _, _, _, _] (by kernel_rfl) rfl) | ((first | (first | refine za.ret hg ?_ | refine zh.mk ⟨hvl, rfl, by omega, by omega⟩ ?_) | ((refine XGet.vecV (m + 1) (by omega) rfl (by omega) ?_); rw [hrow]) | (first | refine XIx.ivs (g - rk).toNat (by omega) (by omega) ?_ | refine zh.mk ⟨by rw [yM], rfl, by omega, by omega⟩ ?_) | ((refine XPut.ivs n (by omega) rfl (by omega) ?_); rw [kR])); conv => whnf) | fail
      exact zk.go (st + 1, false, rk + smF b l k (g - rk).toNat) ⟨by dsimp only; omega, by dsimp only; omega, hput (.inl rfl)⟩ (by dsimp only; omega) rfl ⟨rfl, rfl, rfl, rfl, rfl, rfl, rfl, rfl, rfl, rfl, rfl, trivial⟩
    ·skip
     repeat' ((with_reducible first | refine XBr.y fun h => ?_ | refine XBr.n fun h => ?_ | refine XBr.dec (fun h => ?_) fun h => ?_ | refine XInt.a ?_) <;> conv => whnf)
     exact zk.go (sp + 1, first, v) ⟨by dsimp only; omega, by dsimp only; omega, hM.to fun x y h => by have := h.2.2.2; dsimp only; omega⟩ (by dsimp only; omega) rfl ⟨rfl, rfl, rfl, rfl, rfl, rfl, rfl, rfl, rfl, rfl, trivial⟩
   ·have hv := hall _ _ _ hM fun x y h => by have := h.2.1; omega
    subst hv
    repeat' ((with_reducible first | refine XBr.y fun h => ?_ | refine XBr.n fun h => ?_ | refine XBr.dec (fun h => ?_) fun h => ?_ | refine XInt.a ?_) <;> conv => whnf)
    refine zp.go (n + 1) [.cells (moC (moB b m))] ⟨by omega, by omega, fun h => by omega⟩ (by omega) ?_ ⟨rfl, rfl, rfl, rfl, rfl, rfl, trivial⟩
    show [_, Blk.grow _ false (ivs _ _), _] = [_, Blk.grow _ false (ivs _ _), _]
    refine congrArg (fun z => [_, Blk.grow _ false z, _]) (yv fun i _ => ?_)
    unfold updV
    by_cases hi : i = n
    ·rw [if_pos hi, if_pos (by omega), hi]
    ·rw [if_neg hi]
     show (if i < n + 1 then smF b l (k + 1) i else 0) = if i < n then smF b l (k + 1) i else 0
     by_cases hi2 : i < n
     ·rw [if_pos hi2, if_pos (by omega)]
     ·rw [if_neg hi2, if_neg (by omega)]
  ·have hn4 : j = 0 \/ n = (b.room + 1).toNat := by omega
   repeat' first | ((with_reducible first | apply XBr.tt | apply XBr.ff | refine XBr.y fun h => ?_ | refine XBr.n fun h => ?_ | refine XBr.dec (fun h => ?_) fun h => ?_ | refine XInt.a ?_) <;> conv => whnf) | ((first | refine XFrz.go rfl rfl (yM _ _) ?_ | refine zh.mk ⟨hvl, rfl, by omega, by omega⟩ ?_ | refine XPut.vecV m (by omega) rfl (by omega) ?_); conv => whnf) | fail
   all_goals
    refine zp.go (j + 1) [.dead] (by omega) (by omega) ?_ ⟨rfl, rfl, rfl, congrArg (fun z => some (AV.int .i64 z)) hm6'.symm, trivial⟩
    show [Blk.grow _ false (vecF _ _), _] = [Blk.grow _ false (vecF _ _), _]
    refine congrArg (fun z => [Blk.grow _ false z, Blk.dead]) (zy fun i hi => ?_)
    unfold updV
    by_cases he : i = m
    ·subst he
     rw [if_pos rfl]
     unfold km zbn
     rw [if_pos (by omega), show b.months.length - i = j by omega]
     refine congrArg (AV.sl false) (yv fun q hq => ?_)
     rcases hn4 with h | h
     ·subst h
      split <;> rfl
     ·rw [if_pos (by omega)]
    ·rw [if_neg he]
     unfold km
     by_cases h2 : b.months.length < i + j
     ·rw [if_pos h2, if_pos (by omega)]
     ·rw [if_neg h2, if_neg (by omega)]
 ·obtain rfl : j = b.months.length + 1 := by omega
  rw [show (b.months.length : Int) - ((b.months.length + 1 : Nat) : Int) = -1 by omega]
  conv => whnf
  repeat' ((with_reducible first | refine XBr.y fun h => ?_ | refine XBr.n fun h => ?_ | refine XBr.dec (fun h => ?_) fun h => ?_) <;> conv => whnf)
  unfold sumsA
  rw [zy (F := zbn b l) (G := km b l (b.months.length + 1)) fun i hi => by unfold km; rw [if_pos (by omega)]]
  exact ⟨Froz.grow rfl hvl (y5 fun _ _ => vA _ _ _ _)⟩
end GA
end
section
namespace GA
open Go Go.RowKit Go.Proofs
theorem zd2 (b : Bd) (m a sp st : Int) : ∃ v e, wy b m a sp st = .tup [.int .i64 v, .int .i64 e] := by
 unfold wy
 split; · exact ⟨_, _, rfl⟩
 split; · exact ⟨_, _, rfl⟩
 split; · exact ⟨_, _, rfl⟩
 split; · exact ⟨_, _, rfl⟩
 split; · exact ⟨_, _, rfl⟩
 exact ⟨_, _, rfl⟩
theorem zdd (b : Bd) (m a sp st : Int) (hm : b.months.length <= 100000) (hs : b.surveys.length <= 100000) : Comp Tryz.prog 115 [bedA b, .int .i64 m, .int .i64 a, chA sp st] (wy b m a sp st) := by
 unfold wy
 have e1 : ((b.months.map moA).length : Int) = b.months.length := by rw [List.length_map]
 have hc := yd b hm hs
 by_cases hb : bedE b = 0
 ·have ok := (zz b).1 hb
  have r1 := ok.r1
  have r2 := ok.r2
  have ho1 := zZ m 0 ((b.months.length : Int) - 1)
  have ho2 := zZ a 0 b.room
  rw [hb] at hc
  rw [if_neg (fun h => h hb)]
  by_cases h1 : inZ m 0 ((b.months.length : Int) - 1) = false
  ·rw [h1] at ho1
   rw [<- e1] at ho1
   rw [if_pos h1]
   refine Comp.body (T := tab) (res := [.tmp 8, .tmp 9]) zb [] Tryz.func115 rfl (by kernel_rfl) Tryz.ntmps115 rfl (by simp only [List.length_cons, List.length_nil]; decide) (by simp only [lowL, bedL, AV.low]; rfl) ?_; conv => whnf
   repeat' first | ((with_reducible first | apply XBr.ff | refine XBr.y2 fun h => ?_ | refine XBr.n2 fun h => ?_ | refine XBr.bne (fun h => ?_) fun h => ?_ | refine XInt.a ?_) <;> conv => whnf) | with_reducible apply XBr.not | ((first | refine za.ret hc ?_ | refine za.ret ho1 ?_); conv => whnf) | fail
   exact ⟨.low rfl⟩
  ·rw [if_neg h1]
   rw [Bool.not_eq_false] at h1
   rw [h1] at ho1
   rw [<- e1] at ho1
   by_cases h2 : inZ a 0 b.room = false
   ·rw [h2] at ho2
    rw [if_pos h2]
    refine Comp.body (T := tab) (res := [.tmp 8, .tmp 9]) zb [] Tryz.func115 rfl (by kernel_rfl) Tryz.ntmps115 rfl (by simp only [List.length_cons, List.length_nil]; decide) (by simp only [lowL, bedL, AV.low]; rfl) ?_; conv => whnf
    repeat' first | ((with_reducible first | apply XBr.tt | apply XBr.ff | refine XBr.y2 fun h => ?_ | refine XBr.n2 fun h => ?_ | refine XBr.bne (fun h => ?_) fun h => ?_ | refine XInt.a ?_) <;> conv => whnf) | with_reducible apply XBr.not | ((first | refine za.ret hc ?_ | refine za.ret ho1 ?_ | refine za.ret ho2 ?_); conv => whnf) | fail
    exact ⟨.low rfl⟩
   ·rw [if_neg h2]
    rw [Bool.not_eq_false] at h2
    rw [h2] at ho2
    obtain ⟨q1, q2⟩ := zx.1 h1
    obtain ⟨q3, q4⟩ := zx.1 h2
    obtain ⟨k, rfl⟩ : ∃ k : Nat, m = k := ⟨m.toNat, by omega⟩
    rw [Int.toNat_natCast]
    have hk : k < b.months.length := by omega
    have hmo := ok.mo' hk
    have ho3 := zZ sp (moB b k).pl (moB b k).ph
    have ho4 := zZ st (moB b k).tl (moB b k).th
    by_cases h3 : ji (moB b k) sp st = false
    ·rw [if_pos h3]
     unfold ji at h3
     refine Comp.body (T := tab) (res := [.tmp 8, .tmp 9]) zb [] Tryz.func115 rfl (by kernel_rfl) Tryz.ntmps115 rfl (by simp only [List.length_cons, List.length_nil]; decide) (by simp only [lowL, bedL, AV.low]; rfl) ?_; conv => whnf
     repeat' first | ((with_reducible first | apply XBr.tt | apply XBr.ff | refine XBr.y2 fun h => ?_ | refine XBr.n2 fun h => ?_ | refine XBr.bne (fun h => ?_) fun h => ?_ | refine XInt.a ?_ | apply Chk.go | apply ChkA.go | apply ChkF.go | apply ChkB.go | apply zw.mk) <;> conv => whnf) | (refine XIx.a ?_; conv => whnf) | (with_reducible first | apply XBr.not | apply XAnd.mk | exact trivial) | (exact zd.mk rfl rfl) | (apply Walk.drawN (id := 11) zb zg [] [] (hsU _) [_, _, _, _, _, _, _, _, _] (by kernel_rfl) rfl) | ((first | refine za.ret hc ?_ | refine za.ret ho1 ?_ | refine za.ret ho2 ?_ | refine za.ret ho3 ?_ | refine za.ret ho4 ?_); conv => whnf) | ((with_reducible refine XBr.mk' (fun h => ?_) fun h => ?_) <;> conv => whnf) | fail
     all_goals first | exact ⟨.low rfl⟩ | (exfalso; simp_all; done)
    ·rw [if_neg h3]
     rw [Bool.not_eq_false] at h3
     have h4 := h3
     unfold ji at h4
     rw [Bool.and_eq_true, zx, zx] at h4
     have hg := kf b (moB b k) a sp st q3 (by omega) hmo.1 hmo.2.1 (by omega) (by omega) (by omega) (by omega) (by omega) (by omega)
     have hgb := ku (room := b.room) (g := (moB b k).g) (a := a) (sp := sp) (st := st) (by omega) (by omega)
     generalize zJ b.room (moB b k).g a sp st = z at hg hgb
     unfold ji at h3
     rw [Bool.and_eq_true] at h3
     rw [h3.1] at ho3
     rw [h3.2] at ho4
     refine Comp.body (T := tab) (res := [.tmp 8, .tmp 9]) zb [] Tryz.func115 rfl (by kernel_rfl) Tryz.ntmps115 rfl (by simp only [List.length_cons, List.length_nil]; decide) (by simp only [lowL, bedL, AV.low]; rfl) ?_; conv => whnf
     repeat' first | ((with_reducible first | apply XBr.tt | apply XBr.ff | refine XBr.y fun h => ?_ | refine XBr.n fun h => ?_ | refine XBr.dec (fun h => ?_) fun h => ?_ | refine XBr.y2 fun h => ?_ | refine XBr.n2 fun h => ?_ | refine XBr.bne (fun h => ?_) fun h => ?_ | refine XInt.a ?_ | apply Chk.go | apply ChkA.go | apply ChkF.go | apply ChkB.go | apply zw.mk) <;> conv => whnf) | (refine XIx.a ?_; conv => whnf) | (with_reducible first | apply XBr.not | apply XAnd.mk | exact trivial) | (exact zd.mk rfl rfl) | (apply Walk.drawN (id := 11) zb zg [] [] (hsU _) [_, _, _, _, _, _, _, _, _] (by kernel_rfl) rfl) | ((first | refine za.ret hc ?_ | refine za.ret ho1 ?_ | refine za.ret ho2 ?_ | refine za.ret ho3 ?_ | refine za.ret ho4 ?_ | refine za.ret hg ?_ | refine XInt.i64 (show _ <= z - (moB b k).r by omega) (show z - (moB b k).r <= _ by omega) ?_); conv => whnf) | fail
     ·have h' : z - (moB b k).r < 0 := h
      rw [if_pos h']; exact ⟨.low rfl⟩
     ·have h' : ¬ z - (moB b k).r < 0 := h
      rw [if_neg h']; exact ⟨.low rfl⟩
 ·rw [if_pos hb]
  generalize bedE b = e at hc hb
  refine Comp.body (T := tab) (res := [.tmp 8, .tmp 9]) zb [] Tryz.func115 rfl (by kernel_rfl) Tryz.ntmps115 rfl (by simp only [List.length_cons, List.length_nil]; decide) (by simp only [lowL, bedL, AV.low]; rfl) ?_; conv => whnf
  repeat' first | ((with_reducible first | refine XBr.y2 fun h => ?_ | refine XBr.n2 fun h => ?_ | refine XBr.bne (fun h => ?_) fun h => ?_) <;> conv => whnf) | ((refine za.ret hc ?_); conv => whnf) | fail
  exact ⟨.low rfl⟩
def gY (b : Bd) (m k : Int) : AV :=
 if bedE b ≠ 0 then .tup [.sl true [], .int .i64 (bedE b)]
 else if inZ m 0 ((b.months.length : Int) - 1) = false then .tup [.sl true [], .int .i64 1]
 else if inZ k 0 b.room = false then .tup [.sl true [], .int .i64 3]
 else .tup [slA (lstF (befF b m.toNat k.toNat) (b.room + 1).toNat), .int .i64 0]
theorem zcl (b : Bd) (m k : Int) (hm : b.months.length <= 100000) (hs : b.surveys.length <= 100000) : Comp Tryz.prog 116 [bedA b, .int .i64 m, .int .i64 k] (gY b m k) := by
 unfold gY
 by_cases hb : bedE b = 0
 ·have ok := (zz b).1 hb
  have ho := kv b ok
  have hmn := zas b m hm
  have ham := zS b k
  rw [if_neg (fun h => h hb)]
  by_cases h1 : inZ m 0 ((b.months.length : Int) - 1) = false
  ·rw [h1] at hmn
   rw [if_pos h1]
   refine Comp.body (T := tab) (res := [.tmp 6, .tmp 7]) zb [] Tryz.func116 rfl (by kernel_rfl) Tryz.ntmps116 rfl (by simp only [List.length_cons, List.length_nil]; decide) (by simp only [lowL, bedL, AV.low]; rfl) ?_; conv => whnf
   repeat' first | ((with_reducible first | apply XBr.ff | refine XBr.y2 fun h => ?_ | refine XBr.n2 fun h => ?_ | refine XBr.bne (fun h => ?_) fun h => ?_) <;> conv => whnf) | with_reducible apply XBr.not | ((first | refine za.ret ho ?_ | refine za.ret hmn ?_); conv => whnf) | fail
   exact ⟨.low rfl⟩
  ·rw [if_neg h1]
   rw [Bool.not_eq_false] at h1
   by_cases h2 : inZ k 0 b.room = false
   ·rw [h1] at hmn
    rw [h2] at ham
    rw [if_pos h2]
    refine Comp.body (T := tab) (res := [.tmp 6, .tmp 7]) zb [] Tryz.func116 rfl (by kernel_rfl) Tryz.ntmps116 rfl (by simp only [List.length_cons, List.length_nil]; decide) (by simp only [lowL, bedL, AV.low]; rfl) ?_; conv => whnf
    repeat' first | ((with_reducible first | apply XBr.tt | apply XBr.ff | refine XBr.y2 fun h => ?_ | refine XBr.n2 fun h => ?_ | refine XBr.bne (fun h => ?_) fun h => ?_ | apply Chk.go | apply ChkA.go | apply ChkF.go | apply ChkB.go | apply zw.mk) <;> conv => whnf) | (with_reducible first | apply XBr.not | apply XAnd.mk | exact trivial) | (exact zd.mk rfl rfl) | (apply Walk.drawN (id := 6) zb zg [] [] (hsU _) [_, _, _, _, _, _, _, _] (by kernel_rfl) rfl) | ((first | refine za.ret ho ?_ | refine za.ret hmn ?_ | refine za.ret ham ?_); conv => whnf) | fail
    exact ⟨.low rfl⟩
   ·rw [if_neg h2]
    rw [Bool.not_eq_false] at h2
    obtain ⟨q1, q2⟩ := zx.1 h1
    obtain ⟨q3, q4⟩ := zx.1 h2
    obtain ⟨mm, rfl⟩ : ∃ mm : Nat, m = mm := ⟨m.toNat, by omega⟩
    obtain ⟨kk, rfl⟩ : ∃ kk : Nat, k = kk := ⟨k.toNat, by omega⟩
    exact before_c b ok mm kk (by omega) (by omega)
 ·have ho := kd b hm hs hb
  rw [if_pos hb]
  generalize bedE b = e at ho hb
  refine Comp.body (T := tab) (res := [.tmp 6, .tmp 7]) zb [] Tryz.func116 rfl (by kernel_rfl) Tryz.ntmps116 rfl (by simp only [List.length_cons, List.length_nil]; decide) (by simp only [lowL, bedL, AV.low]; rfl) ?_; conv => whnf
  repeat' first | ((with_reducible first | refine XBr.y2 fun h => ?_ | refine XBr.n2 fun h => ?_ | refine XBr.bne (fun h => ?_) fun h => ?_) <;> conv => whnf) | ((refine za.ret ho ?_); conv => whnf) | fail
  exact ⟨.low rfl⟩
theorem XIx.vecV {W : Nat} {F : Nat -> AV} {n : Int} {k : AV -> Prop} (i : Nat) (hn : n = i) (h2 : i < W) (h1 : (F i).cells = [F i]) (h : k (.pim [F i])) : XIx (vecF W F) n 1 k := by
 subst hn
 have e : nth (vecF W F) (i : Int) = F i := by
  unfold nth
  rw [Int.toNat_natCast]; exact yq _ h2
 refine ⟨by omega, by rw [zj]; omega, by rw [e, h1]; rfl, ?_⟩
 rw [e, h1]; exact h
def oneB (b : Bd) (nl : Bool) (m : Nat) : Bd := { b with nlm := nl, nls := b.surveys.isEmpty, months := [moB b m] }
theorem oneB_ok {b : Bd} (ok : BedOk b) (nl : Bool) {m : Nat} (hm : m < b.months.length) : BedOk (oneB b nl m) :=
 ⟨ok.r1, ok.r2, show 1 <= ([moB b m]).length by simp, show ([moB b m]).length <= 10 by simp, ok.f1, ok.f2, ok.u1, ok.u2, fun x hx => by
  have : x = moB b m := by simpa [oneB] using hx
  rw [this]; exact ok.mo' hm⟩
set_option maxHeartbeats 2000000 in
theorem gv (b : Bd) (month amount : Int) (c : Int × Int) : Comp Tryz.prog 21 [bedA b, .int .i64 month, .int .i64 amount, prA c] (.bool true) := by
 have hgr := kK b
 have e1 : ((b.months.map moA).length : Int) = b.months.length := by rw [List.length_map]
 cases hg : kE b
 case true =>
  refine Comp.body (T := tab) (res := [.tmp 8]) zb [] Tryz.func21 rfl (by kernel_rfl) Tryz.ntmps21 rfl (by simp only [List.length_cons, List.length_nil]; decide) (by simp only [lowL, bedL, AV.low]; rfl) ?_; conv => whnf
  repeat' first | ((first | (with_reducible apply XBr.tt) | ((refine za.ret hgr ?_); rw [hg]) | (refine za.ret zr ?_)); conv => whnf) | fail
  exact ⟨.low rfl⟩
 obtain ⟨g1, g2⟩ := kO.1 hg
 have how := wv b (by omega) (by omega)
 have hth := kq b (by omega) (by omega)
 have hck := yd (thB b) (show b.months.length <= 100000 by omega) (show b.surveys.length <= 100000 by omega)
 change Comp Tryz.prog _ _ (.int .i64 (bedE b)) at hck
 have hpk := ki (ownB b) (show b.months.length <= 100000 by omega) (show b.surveys.length <= 100000 by omega)
 change Comp Tryz.prog _ _ (.int .i64 (bedE b)) at hpk
 have hle := qy (ownB b) month amount c.1 c.2 (show b.months.length <= 100000 by omega) (show b.surveys.length <= 100000 by omega)
 change Comp Tryz.prog _ _ (wy b month amount c.1 c.2) at hle
 have hlr := zdd (thB b) month amount c.1 c.2 (show b.months.length <= 100000 by omega) (show b.surveys.length <= 100000 by omega)
 change Comp Tryz.prog _ _ (wy b month amount c.1 c.2) at hlr
 obtain ⟨lv, le, hlv⟩ := zd2 b month amount c.1 c.2
 rw [hlv] at hle hlr
 have hbe := zcl (ownB b) month amount (show b.months.length <= 100000 by omega) (show b.surveys.length <= 100000 by omega)
 change Comp Tryz.prog _ _ (gY b month amount) at hbe
 have hsa := jL b (by omega) (by omega)
 have heq0 : Comp Tryz.prog 46 [.sl true (ints []), .sl true (ints [])] (.bool true) := kL true true [] [] (by simp)
 unfold gY at hbe
 by_cases hb : bedE b = 0
 ·have ok := (zz b).1 hb
  rw [if_neg (fun h => h hb)] at hbe
  rw [hb] at hck hpk
  by_cases h1 : inZ month 0 ((b.months.length : Int) - 1) = false
  ·rw [if_pos h1] at hbe
   have h1' : ¬ (0 <= month /\ month <= (b.months.length : Int) - 1) := fun h => by rw [zx.2 h] at h1; cases h1
   refine Comp.body (T := tab) (res := [.tmp 8]) zb [] Tryz.func21 rfl (by kernel_rfl) Tryz.ntmps21 rfl (by simp only [List.length_cons, List.length_nil]; decide) (by simp only [lowL, bedL, AV.low]; rfl) ?_; conv => whnf
   repeat' first | ((first | (with_reducible apply XBr.ff) | ((refine za.ret hgr ?_); rw [hg])); conv => whnf) | fail
   refine Walk.place (Walk.place ?_)
   apply Walk.drawX zb zg [] [4, 5, 6, 7] (fun fl => match fl with
    | [a, b', x, y] => [(bif a then .cells (bif x then bedC (ownB b) else bzero) else .free), (bif b' then .cells (bif y then bedC (thB b) else bzero) else .free)]
    | _ => []) [_, _, _, _, .ptr 0 0, .ptr 1 0, _, _] (by kernel_rfl) rfl
   ·skip
    repeat' first | ((with_reducible first | apply Chk.go | apply ChkA.go); conv => whnf) | (with_reducible first | apply XAnd.mk | exact trivial) | (exact zd.mk rfl rfl) | ((first | refine za.ret how ?_ | refine za.ret hth ?_); conv => whnf) | (first | ((refine zq.at 0 rfl ?_); (conv => whnf); exact zd.mk rfl rfl) | ((refine zq.at 1 rfl ?_); (conv => whnf); exact zd.mk rfl rfl)) | fail
   ·skip
    repeat' first | ((with_reducible first | apply Chk.go | apply ChkF.go | apply ChkB.go); conv => whnf) | (with_reducible first | apply XAnd.mk | exact trivial) | (exact zd.mk rfl rfl) | ((first | refine za.ret how ?_ | refine za.ret hth ?_); conv => whnf) | (first | ((refine zq.at 0 rfl ?_); (conv => whnf); exact zd.mk rfl rfl) | ((refine zq.at 1 rfl ?_); (conv => whnf); exact zd.mk rfl rfl)) | fail
   conv => whnf
   repeat' first | ((with_reducible first | apply XBr.tt | apply XBr.ff | refine XBr.y fun h => ?_ | refine XBr.n fun h => ?_ | refine XBr.dec (fun h => ?_) fun h => ?_ | refine XBr.y1 fun h => ?_ | refine XBr.n1 fun h => ?_ | refine XBr.beq (fun h => ?_) fun h => ?_ | refine XBr.y2 fun h => ?_ | refine XBr.n2 fun h => ?_ | refine XBr.bne (fun h => ?_) fun h => ?_) <;> conv => whnf) | ((first | refine za.ret hck ?_ | refine za.ret hpk ?_ | refine za.ret hle ?_ | refine za.ret hlr ?_ | refine za.ret hbe ?_ | refine za.ret hsa ?_ | refine za.ret heq0 ?_ | refine za.ret zr ?_); conv => whnf) | fail
   all_goals first | exact ⟨.low rfl⟩ | (exfalso; omega)
  ·rw [if_neg h1] at hbe
   rw [Bool.not_eq_false, zx] at h1
   by_cases h2 : inZ amount 0 b.room = false
   ·rw [if_pos h2] at hbe
    have h2' : ¬ (0 <= amount /\ amount <= b.room) := fun h => by rw [zx.2 h] at h2; cases h2
    refine Comp.body (T := tab) (res := [.tmp 8]) zb [] Tryz.func21 rfl (by kernel_rfl) Tryz.ntmps21 rfl (by simp only [List.length_cons, List.length_nil]; decide) (by simp only [lowL, bedL, AV.low]; rfl) ?_; conv => whnf
    repeat' first | ((first | (with_reducible apply XBr.ff) | ((refine za.ret hgr ?_); rw [hg])); conv => whnf) | fail
    refine Walk.place (Walk.place ?_)
    apply Walk.drawX zb zg [] [4, 5, 6, 7] (fun fl => match fl with
     | [a, b', x, y] => [(bif a then .cells (bif x then bedC (ownB b) else bzero) else .free), (bif b' then .cells (bif y then bedC (thB b) else bzero) else .free)]
     | _ => []) [_, _, _, _, .ptr 0 0, .ptr 1 0, _, _] (by kernel_rfl) rfl
    ·skip
     repeat' first | ((with_reducible first | apply Chk.go | apply ChkA.go); conv => whnf) | (with_reducible first | apply XAnd.mk | exact trivial) | (exact zd.mk rfl rfl) | ((first | refine za.ret how ?_ | refine za.ret hth ?_); conv => whnf) | (first | ((refine zq.at 0 rfl ?_); (conv => whnf); exact zd.mk rfl rfl) | ((refine zq.at 1 rfl ?_); (conv => whnf); exact zd.mk rfl rfl)) | fail
    ·skip
     repeat' first | ((with_reducible first | apply Chk.go | apply ChkF.go | apply ChkB.go); conv => whnf) | (with_reducible first | apply XAnd.mk | exact trivial) | (exact zd.mk rfl rfl) | ((first | refine za.ret how ?_ | refine za.ret hth ?_); conv => whnf) | (first | ((refine zq.at 0 rfl ?_); (conv => whnf); exact zd.mk rfl rfl) | ((refine zq.at 1 rfl ?_); (conv => whnf); exact zd.mk rfl rfl)) | fail
    conv => whnf
    repeat' first | ((with_reducible first | apply XBr.tt | apply XBr.ff | refine XBr.y fun h => ?_ | refine XBr.n fun h => ?_ | refine XBr.dec (fun h => ?_) fun h => ?_ | refine XBr.y1 fun h => ?_ | refine XBr.n1 fun h => ?_ | refine XBr.beq (fun h => ?_) fun h => ?_ | refine XBr.y2 fun h => ?_ | refine XBr.n2 fun h => ?_ | refine XBr.bne (fun h => ?_) fun h => ?_) <;> conv => whnf) | ((first | refine za.ret hck ?_ | refine za.ret hpk ?_ | refine za.ret hle ?_ | refine za.ret hlr ?_ | refine za.ret hbe ?_ | refine za.ret hsa ?_ | refine za.ret heq0 ?_ | refine za.ret zr ?_); conv => whnf) | fail
    all_goals first | exact ⟨.low rfl⟩ | (exfalso; omega)
   ·rw [if_neg h2] at hbe
    rw [Bool.not_eq_false, zx] at h2
    obtain ⟨m, rfl⟩ : ∃ m : Nat, month = m := ⟨month.toNat, by omega⟩
    obtain ⟨k, rfl⟩ : ∃ k : Nat, amount = k := ⟨amount.toNat, by omega⟩
    rw [Int.toNat_natCast, Int.toNat_natCast] at hbe
    have hnx := fun nl => zcp (oneB b nl m) (oneB_ok ok.toBedOk nl (by omega))
    have hsl : List.take ((m : Int) + 1 - (m : Int)).toNat (List.drop ((m : Int)).toNat (List.map moA (thB b).months)) = [moA (moB b m)] := by
     rw [show ((m : Int) + 1 - (m : Int)).toNat = 1 by omega, Int.toNat_natCast, <- List.map_drop]
     have hd : (thB b).months.drop m = moB b m :: b.months.drop (m + 1) := vj (xs := b.months) (by omega)
     rw [hd]; rfl
    refine Comp.body (T := tab) (res := [.tmp 8]) zb [] Tryz.func21 rfl (by kernel_rfl) Tryz.ntmps21 rfl (by simp only [List.length_cons, List.length_nil]; decide) (by simp only [lowL, bedL, AV.low]; rfl) ?_; conv => whnf
    repeat' first | ((first | (with_reducible apply XBr.ff) | ((refine za.ret hgr ?_); rw [hg])); conv => whnf) | fail
    refine Walk.place (Walk.place ?_)
    apply Walk.drawX zb zg [] [4, 5, 6, 7] (fun fl => match fl with
     | [a, b', x, y] => [(bif a then .cells (bif x then bedC (ownB b) else bzero) else .free), (bif b' then .cells (bif y then bedC (thB b) else bzero) else .free)]
     | _ => []) [_, _, _, _, .ptr 0 0, .ptr 1 0, _, _] (by kernel_rfl) rfl
    ·skip
     repeat' first | ((with_reducible first | apply Chk.go | apply ChkA.go); conv => whnf) | (with_reducible first | apply XAnd.mk | exact trivial) | (exact zd.mk rfl rfl) | ((first | refine za.ret how ?_ | refine za.ret hth ?_); conv => whnf) | (first | ((refine zq.at 0 rfl ?_); (conv => whnf); exact zd.mk rfl rfl) | ((refine zq.at 1 rfl ?_); (conv => whnf); exact zd.mk rfl rfl)) | fail
    ·skip
     repeat' first | ((with_reducible first | apply Chk.go | apply ChkF.go | apply ChkB.go); conv => whnf) | (with_reducible first | apply XAnd.mk | exact trivial) | (exact zd.mk rfl rfl) | ((first | refine za.ret how ?_ | refine za.ret hth ?_); conv => whnf) | (first | ((refine zq.at 0 rfl ?_); (conv => whnf); exact zd.mk rfl rfl) | ((refine zq.at 1 rfl ?_); (conv => whnf); exact zd.mk rfl rfl)) | fail
    conv => whnf
    repeat' first | ((with_reducible first | apply XBr.ff | refine XBr.y fun h => ?_ | refine XBr.n fun h => ?_ | refine XBr.dec (fun h => ?_) fun h => ?_ | refine XBr.y2 fun h => ?_ | refine XBr.n2 fun h => ?_ | refine XBr.bne (fun h => ?_) fun h => ?_ | refine XInt.a ?_) <;> conv => whnf) | ((first | refine za.ret hck ?_ | refine za.ret hpk ?_ | refine za.ret hle ?_ | refine za.ret hlr ?_ | refine za.ret hbe ?_); conv => whnf) | fail
    refine zh.mk ⟨by omega, by omega, by rw [List.length_map]; show _ <= (b.months.length : Int); omega, .inr (wideMo _)⟩ ?_
    conv => whnf
    skip
    rw [hsl]
    refine za.ret (hnx _) ?_
    conv => whnf
    refine XIx.vecV 0 rfl (show 0 < ([moB b m]).length by simp) rfl ?_
    conv => whnf
    have hvl : ((vecF ((oneB b b.months.isEmpty m).room + 1).toNat (vX (oneB b b.months.isEmpty m) 0)).length : Int) = b.room + 1 := by
     rw [zj]
     show (((b.room + 1).toNat : Nat) : Int) = b.room + 1
     omega
    skip
    refine Walk.nilgr 17 3 rfl ?_
    refine Walk.loopK zb [] [(2, _), (4, _), (8, _), (9, _), (11, _), (13, _), (16, _), (74, _), (75, _)] ⟨rfl, rfl, rfl, rfl, rfl, rfl, rfl, rfl, rfl, trivial⟩ (fun n : Nat => (n : Int) <= b.room + 1) (fun n => [(17, .gr 2 (lstF (befF b m k) n).length), (76, natA n)]) (fun n => [.cells (bedC (ownB b)), .cells (bedC (oneB b b.months.isEmpty m)), .grow 3 (lstF (befF b m k) n).isEmpty (ints (lstF (befF b m k) n))]) (fun n => (b.room + 1).toNat - n) 0 (by have := ok.r1; omega) rfl ⟨rfl, rfl, trivial⟩ ?_
    intro n hn
    have hs := kw (befF b m k) n
    have hl := yR (befF b m k) n
    have hl2 : (ints (lstF (befF b m k) n)).length = (lstF (befF b m k) n).length := zm _
    have r2 := ok.r2
    conv => whnf
    by_cases hlt : (n : Int) < b.room + 1
    ·have hfb : nxF (oneB b b.months.isEmpty m) 0 n k = befF b m k n := rfl
     generalize hq : befF b m k n = q at hs hfb
     repeat' first | ((with_reducible first | refine XBr.y fun h => ?_ | refine XBr.n fun h => ?_ | refine XBr.dec (fun h => ?_) fun h => ?_ | refine XInt.a ?_) <;> conv => whnf) | ((first | (first | refine zh.a ?_ | refine XIx.vecV n rfl (show n < (b.room + 1).toNat by omega) rfl ?_) | ((refine XIx.bls k rfl (show k < (b.room + 1).toNat by omega) ?_); rw [hfb])); conv => whnf) | ((with_reducible refine XBr.mk' (fun h => ?_) fun h => ?_) <;> conv => whnf) | fail
     ·subst h
      rw [if_pos rfl] at hs
      refine zk.go (n + 1) (by omega) (by omega) ?_ ⟨rfl, rfl, rfl, rfl, rfl, rfl, rfl, rfl, rfl, ?_, rfl, trivial⟩
      ·rw [hs]
       show [_, _, Blk.grow _ (lstF (befF b m k) n ++ [(n : Int)]).isEmpty ((lstF (befF b m k) n ++ [(n : Int)]).map (AV.int .i64))] = _
       rw [zD, List.map_append]; rfl
      ·show some (AV.gr 2 ((lstF (befF b m k) n).length + 1)) = _
       rw [hs, List.length_append]; rfl
     ·subst h
      rw [if_neg (by simp)] at hs
      exact zk.go (n + 1) (by omega) (by omega) (by rw [hs]) ⟨rfl, rfl, rfl, rfl, rfl, rfl, rfl, rfl, rfl, by rw [hs]; rfl, rfl, trivial⟩
    ·obtain rfl : n = (b.room + 1).toNat := by omega
     generalize lstF (befF b m k) (b.room + 1).toNat = ls at hl hl2
     have heq := kL ls.isEmpty ls.isEmpty ls ls (by omega)
     rw [beq_self_eq_true] at heq
     repeat' first | ((with_reducible first | apply XBr.tt | refine XBr.y fun h => ?_ | refine XBr.n fun h => ?_ | refine XBr.dec (fun h => ?_) fun h => ?_ | refine XBr.y1 fun h => ?_ | refine XBr.n1 fun h => ?_ | refine XBr.beq (fun h => ?_) fun h => ?_) <;> conv => whnf) | ((first | refine za.lend heq (.cons (.low (qm ls)) (.cons (Froz.grow rfl hl2 (lowI _)) .nil)) rfl ?_ | refine za.ret hsa ?_ | refine za.ret zr ?_); conv => whnf) | fail
     all_goals first | exact ⟨.low rfl⟩ | (exfalso; omega)
 ·rw [if_pos hb] at hbe
  generalize bedE b = E at hb hck hpk hbe
  refine Comp.body (T := tab) (res := [.tmp 8]) zb [] Tryz.func21 rfl (by kernel_rfl) Tryz.ntmps21 rfl (by simp only [List.length_cons, List.length_nil]; decide) (by simp only [lowL, bedL, AV.low]; rfl) ?_; conv => whnf
  repeat' first | ((first | (with_reducible apply XBr.ff) | ((refine za.ret hgr ?_); rw [hg])); conv => whnf) | fail
  refine Walk.place (Walk.place ?_)
  apply Walk.drawX zb zg [] [4, 5, 6, 7] (fun fl => match fl with
   | [a, b', x, y] => [(bif a then .cells (bif x then bedC (ownB b) else bzero) else .free), (bif b' then .cells (bif y then bedC (thB b) else bzero) else .free)]
   | _ => []) [_, _, _, _, .ptr 0 0, .ptr 1 0, _, _] (by kernel_rfl) rfl
  ·skip
   repeat' first | ((with_reducible first | apply Chk.go | apply ChkA.go); conv => whnf) | (with_reducible first | apply XAnd.mk | exact trivial) | (exact zd.mk rfl rfl) | ((first | refine za.ret how ?_ | refine za.ret hth ?_); conv => whnf) | (first | ((refine zq.at 0 rfl ?_); (conv => whnf); exact zd.mk rfl rfl) | ((refine zq.at 1 rfl ?_); (conv => whnf); exact zd.mk rfl rfl)) | fail
  ·skip
   repeat' first | ((with_reducible first | apply Chk.go | apply ChkF.go | apply ChkB.go); conv => whnf) | (with_reducible first | apply XAnd.mk | exact trivial) | (exact zd.mk rfl rfl) | ((first | refine za.ret how ?_ | refine za.ret hth ?_); conv => whnf) | (first | ((refine zq.at 0 rfl ?_); (conv => whnf); exact zd.mk rfl rfl) | ((refine zq.at 1 rfl ?_); (conv => whnf); exact zd.mk rfl rfl)) | fail
  conv => whnf
  repeat' first | ((with_reducible first | apply XBr.tt | apply XBr.ff | refine XBr.y1 fun h => ?_ | refine XBr.n1 fun h => ?_ | refine XBr.beq (fun h => ?_) fun h => ?_ | refine XBr.y2 fun h => ?_ | refine XBr.n2 fun h => ?_ | refine XBr.bne (fun h => ?_) fun h => ?_) <;> conv => whnf) | ((first | refine za.ret hck ?_ | refine za.ret hpk ?_ | refine za.ret hle ?_ | refine za.ret hlr ?_ | refine za.ret hbe ?_ | refine za.ret hsa ?_ | refine za.ret heq0 ?_ | refine za.ret zr ?_); conv => whnf) | fail
  all_goals first | exact ⟨.low rfl⟩ | (exfalso; omega)
end GA
end
section
namespace GA
structure fw (n : Nat) : Prop where
 t : True
abbrev fw.val {n : Nat} (_ : fw n) : Nat := n
theorem fw.mk' (n : Nat) : fw n := ⟨trivial⟩
end GA
end
section
namespace GA
open Go Go.RowKit Go.Proofs
theorem zW {W : Nat} {F G : Nat -> Bool} (h : ∀ i, i < W -> F i = G i) : bls W F = bls W G := congrArg (List.map AV.bool) (zy h)
theorem XGet.blsJ {W : Nat} {F : Nat -> Bool} {n e : Nat} {k : List AV -> Prop} (j : Nat) (he : e = j) (h1 : n = W) (h2 : j < W) (h : k [.bool (F j)]) : XGet (GA.bls W F) n e k := by
 subst he; exact XGet.bls h1 h2 h
def psR (b : Bd) (p : Nat -> Bool) : Nat -> Nat -> Bool
 | 0, n => inZ n (b.first - b.unsure) (b.first + b.unsure) && agB b p 0 n
 | m + 1, n => (List.range (b.room + 1).toNat).any (fun k => psR b p m k && nxF b m k n) && agB b p (m + 1) n
def jx (b : Bd) (p : Nat -> Bool) : Nat -> List Blk
 | 0 => []
 | m + 1 => jx b p m ++ [.grow 4 false (bls (b.room + 1).toNat (psR b p m))]
def jg (W m : Nat) : Blk := .grow 198 (decide (m = 0)) (vecF m fun i => .gr (i + 1) W)
def psG (b : Bd) (p : Nat -> Bool) : Nat -> Nat -> Bool
 | 0, n => psR b p b.months.length n
 | k + 1, n => psR b p (b.months.length - (k + 1)) n && (List.range (b.room + 1).toNat).any fun q => nxF b (b.months.length - (k + 1)) n q && psG b p k q
def psF (b : Bd) (p : Nat -> Bool) (m n : Nat) : Bool := psG b p (b.months.length - m) n
theorem zbR (b : Bd) (p : Nat -> Bool) (n : Nat) : psF b p b.months.length n = psR b p b.months.length n := by unfold psF; rw [Nat.sub_self]; rfl
theorem wS {b : Bd} {p : Nat -> Bool} {m : Nat} (hm : m < b.months.length) (n : Nat) : psF b p m n = (psR b p m n && (List.range (b.room + 1).toNat).any fun q => nxF b m n q && psF b p (m + 1) q) := by
 obtain ⟨k, hk⟩ : ∃ k, b.months.length - m = k + 1 := ⟨b.months.length - m - 1, by omega⟩
 unfold psF
 rw [hk, psG, show b.months.length - (k + 1) = m by omega, show b.months.length - (m + 1) = k by omega]
theorem wb (g : Nat -> Bool) (k : Nat) : (List.range (k + 1)).any g = ((List.range k).any g || g k) := by
 rw [List.range_succ, List.any_append]; simp
theorem qa {W n : Nat} {R : Nat -> Bool} {v : Bool} (x : Bool) (hv : v = R n) : bls W (updV (updV (fun q => if q < n then R q else false) n x) n v) = bls W fun q => if q < n + 1 then R q else false := zW fun q _ => by
 rw [kR]
 unfold updV
 by_cases h : q = n
 ·rw [if_pos h, if_pos (by omega), h, hv]
 ·rw [if_neg h]
  show (if q < n then R q else false) = if q < n + 1 then R q else false
  by_cases h2 : q < n
  ·rw [if_pos h2, if_pos (by omega)]
  ·rw [if_neg h2, if_neg (by omega)]
theorem row_first {W n : Nat} {R : Nat -> Bool} : bls W (updV (fun q => if q < n then R q else false) n false) = bls W fun q => if q < n then R q else false := zW fun q _ => by
 unfold updV
 by_cases h : q = n
 ·rw [if_pos h, if_neg (by omega)]
 ·rw [if_neg h]
def psX (b : Bd) (p : Nat -> Bool) (j k n : Nat) : Bool := if b.months.length <= k + j then psF b p k n else psR b p k n
def psB (b : Bd) (p : Nat -> Bool) (j k : Nat) : Blk := if k <= b.months.length then .grow 4 false (bls (b.room + 1).toNat (psX b p j k)) else .grow 4 true []
def psP (b : Bd) (p : Nat -> Bool) (j : Nat) : List Blk := [jg (b.room + 1).toNat (b.months.length + 1), psB b p j 0, psB b p j 1, psB b p j 2, psB b p j 3, psB b p j 4, psB b p j 5, psB b p j 6, psB b p j 7, psB b p j 8, psB b p j 9, psB b p j 10]
theorem psB_cur {b : Bd} {p : Nat -> Bool} {j k : Nat} (h : k + j + 1 = b.months.length) : psB b p j k = .grow 4 false (bls (b.room + 1).toNat (psR b p k)) := by
 unfold psB
 rw [if_pos (by omega)]
 exact congrArg (Blk.grow _ false) (zW fun q _ => by unfold psX; rw [if_neg (by omega)])
theorem gM {b : Bd} {p : Nat -> Bool} {j k : Nat} (h : b.months.length <= k + j) (h2 : k <= b.months.length) : psB b p j k = .grow 4 false (bls (b.room + 1).toNat (psF b p k)) := by
 unfold psB
 rw [if_pos h2]
 exact congrArg (Blk.grow _ false) (zW fun q _ => by unfold psX; rw [if_pos h])
theorem psB_other {b : Bd} {p : Nat -> Bool} {j k : Nat} (h : k + j + 1 ≠ b.months.length) : psB b p (j + 1) k = psB b p j k := by
 unfold psB
 split
 ·refine congrArg (Blk.grow _ false) (zW fun q _ => ?_)
  unfold psX
  by_cases h2 : b.months.length <= k + j
  ·rw [if_pos h2, if_pos (by omega)]
  ·rw [if_neg h2, if_neg (by omega)]
 ·rfl
theorem zbl (b : Bd) (p : Nat -> Bool) : ∀ N, jx b p N = (List.range N).map fun k => .grow 4 false (bls (b.room + 1).toNat (psR b p k))
 | 0 => rfl
 | N + 1 => by rw [jx, zbl b p N, List.range_succ, List.map_append]; rfl
theorem psPad {b : Bd} {p : Nat -> Bool} (hM : b.months.length <= 10) : jg (b.room + 1).toNat (b.months.length + 1) :: jx b p (b.months.length + 1) ++ List.replicate (10 - b.months.length) (.grow 4 true []) = psP b p 0 := by
 rw [zbl, List.cons_append]
 show _ = jg _ _ :: (List.range 11).map (psB b p 0)
 refine congrArg (List.cons _) (List.ext_getElem? fun i => ?_)
 have hl : ((List.range (b.months.length + 1)).map fun k => Blk.grow 4 false (bls (b.room + 1).toNat (psR b p k))).length = b.months.length + 1 := by rw [List.length_map, List.length_range]
 by_cases h : i < b.months.length + 1
 ·rw [List.getElem?_append_left (by omega), List.getElem?_map, List.getElem?_map, List.getElem?_range h, List.getElem?_range (by omega)]
  show some _ = some (psB b p 0 i)
  unfold psB
  rw [if_pos (by omega)]
  refine congrArg (fun z => some (Blk.grow _ false z)) (zW fun q _ => ?_)
  unfold psX
  by_cases h2 : b.months.length <= i + 0
  ·obtain rfl : i = b.months.length := by omega
   rw [if_pos h2, zbR]
  ·rw [if_neg h2]
 ·rw [List.getElem?_append_right (by omega), List.getElem?_replicate, List.getElem?_map]
  by_cases h2 : i < 11
  ·rw [if_pos (by omega), List.getElem?_range h2]
   show _ = some (psB b p 0 i)
   unfold psB; rw [if_neg (by omega)]
  ·rw [if_neg (by omega), List.getElem?_eq_none (by rw [List.length_range]; omega)]; rfl
theorem psP_eq (b : Bd) (p : Nat -> Bool) (j : Nat) : psP b p j = jg (b.room + 1).toNat (b.months.length + 1) :: vecF 11 (psB b p j) := by rw [ya]; rfl
theorem psP_at (b : Bd) (p : Nat -> Bool) {j N : Nat} (h : j + (N + 1) = b.months.length) (hN : N < 10) : psP b p j = ((psP b p j).set (N + 1) (.grow 4 false (bls (b.room + 1).toNat (psR b p N)))).set (N + 2) (.grow 4 false (bls (b.room + 1).toNat (psF b p (N + 1)))) := by
 rw [psP_eq]
 show _ = jg _ _ :: ((vecF 11 (psB b p j)).set N _).set (N + 1) _
 rw [yF, yF]
 refine congrArg (List.cons _) (zy fun k _ => ?_)
 unfold updV
 by_cases e1 : k = N + 1
 ·subst e1; rw [if_pos rfl, gM (by omega) (by omega)]
 ·rw [if_neg e1]
  by_cases e2 : k = N
  ·subst e2; rw [if_pos rfl, psB_cur (by omega)]
  ·rw [if_neg e2]
theorem psP_next (b : Bd) (p : Nat -> Bool) {j N : Nat} (h : j + (N + 1) = b.months.length) (hN : N < 10) : psP b p (j + 1) = ((psP b p j).set (N + 1) (.grow 4 false (bls (b.room + 1).toNat (psF b p N)))).set (N + 2) (.grow 4 false (bls (b.room + 1).toNat (psF b p (N + 1)))) := by
 rw [psP_eq, psP_eq]
 show _ = jg _ _ :: ((vecF 11 (psB b p j)).set N _).set (N + 1) _
 rw [yF, yF]
 refine congrArg (List.cons _) (zy fun k _ => ?_)
 unfold updV
 by_cases e1 : k = N + 1
 ·subst e1; rw [if_pos rfl, gM (by omega) (by omega)]
 ·rw [if_neg e1]
  by_cases e2 : k = N
  ·subst e2; rw [if_pos rfl, gM (by omega) (by omega)]
  ·rw [if_neg e2, psB_other (by omega)]
theorem zbu {W n : Nat} {R F : Nat -> Bool} {v : Bool} (hv : v = F n) : bls W (updV (fun q => if q < n then F q else R q) n v) = bls W fun q => if q < n + 1 then F q else R q := zW fun q _ => by
 unfold updV
 by_cases h : q = n
 ·rw [if_pos h, if_pos (by omega), h, hv]
 ·rw [if_neg h]
  show (if q < n then F q else R q) = if q < n + 1 then F q else R q
  by_cases h2 : q < n
  ·rw [if_pos h2, if_pos (by omega)]
  ·rw [if_neg h2, if_neg (by omega)]
theorem Walk.nilrows {P : Program} {H : List Blk} {N : Nat} {r : Option Nat} {c : Code} {Q : Post} {D : List Nat} {σ : St} (te : TypeId) : ∀ k, Walk P N r c Q D σ (H ++ List.replicate k (.grow te true [])) -> Walk P N r c Q D σ H
 | 0, x => by simpa using x
 | k + 1, x => by
   refine Walk.nilrows te k (Walk.nilrow te ?_)
   rw [List.append_assoc, <- List.replicate_succ']; exact x
set_option maxHeartbeats 4000000 in
theorem wz (b : Bd) (ok : BedOk b) (hs : b.surveys.length <= 100000) (nl : Bool) (p : Nat -> Bool) : Comp Tryz.prog 218 [bedA b, nextA b, .sl nl (bls b.surveys.length p)] (.sl false (vecF (b.months.length + 1) fun m => .sl false (bls (b.room + 1).toNat (psF b p m)))) := by
 have m1 := ok.m1
 have m2 := ok.m2
 have r1 := ok.r1
 have r2 := ok.r2
 have f1 := ok.f1
 have f2 := ok.f2
 have u1 := ok.u1
 have u2 := ok.u2
 have e1 : ((b.months.map moA).length : Int) = b.months.length := by rw [List.length_map]
 have hz0 : ∀ N, List.replicate (b.room + 1).toNat (AV.bool false) = bls (b.room + 1).toNat fun q => if q < 0 then psR b p N q else false := fun N => by
  rw [bls0]; exact zW fun q _ => (if_neg (Nat.not_lt_zero q)).symm
 refine Comp.body (T := tab) (res := [.tmp 6]) zb [] Tryz.func218 rfl (by kernel_rfl) Tryz.ntmps218 rfl (by simp only [List.length_cons, List.length_nil]; decide) (by simp only [lowL, bedL, AV.low, kC, gi]; rfl) ?_; conv => whnf
 skip
 refine Walk.nilgr 7 198 rfl ?_
 refine Walk.loopK zb [] [(1, _), (2, _), (3, _), (6, _)] ⟨rfl, rfl, rfl, rfl, trivial⟩ (fun m : Nat => m <= b.months.length + 1) (fun m => [(7, .gr 0 m), (8, natA m)]) (fun m => jg (b.room + 1).toNat m :: jx b p m) (fun m => b.months.length + 1 - m) 0 (Nat.zero_le _) (by unfold jg; rw [ya] <;> rfl) ⟨rfl, rfl, trivial⟩ ?_
 intro m hm
 by_cases hmM : m <= b.months.length
 ·by_cases hm0 : m = 0
  ·subst hm0
   conv => whnf
   repeat' first | ((with_reducible first | refine XBr.y fun h => ?_ | refine XBr.n fun h => ?_ | refine XBr.dec (fun h => ?_) fun h => ?_ | refine XInt.a ?_) <;> conv => whnf) | (refine zh.a ?_; conv => whnf) | fail
   refine Walk.loopK zb [] [(1, _), (2, _), (3, _), (6, _), (7, _), (8, _), (9, .gr 1 (b.room + 1).toNat)] ⟨rfl, rfl, rfl, rfl, rfl, rfl, rfl, trivial⟩ (fun n : Nat => (n : Int) <= b.room + 1) (fun n => [(10, natA n)]) (fun n => jg (b.room + 1).toNat 0 :: (jx b p 0 ++ [.grow 4 false (bls (b.room + 1).toNat fun q => if q < n then psR b p 0 q else false)])) (fun n => (b.room + 1).toNat - n) 0 (by omega) (by rw [<- hz0 0] <;> rfl) ⟨rfl, trivial⟩ ?_
   intro n hn
   have hbl := fun F => z9 (b.room + 1).toNat F
   have hag := wA b nl p 0 n hs
   by_cases hlt : (n : Int) <= b.room
   ·have hof := zZ n (b.first - b.unsure) (b.first + b.unsure)
    have hps : psR b p 0 n = (inZ n (b.first - b.unsure) (b.first + b.unsure) && agB b p 0 n) := rfl
    obtain ⟨u, hu⟩ : ∃ u, inZ n (b.first - b.unsure) (b.first + b.unsure) = u := ⟨_, rfl⟩
    rw [hu] at hof
    conv => whnf
    repeat' first | ((with_reducible first | refine XBr.y fun h => ?_ | refine XBr.n fun h => ?_ | refine XBr.dec (fun h => ?_) fun h => ?_ | refine XBr.y1 fun h => ?_ | refine XBr.n1 fun h => ?_ | refine XBr.beq (fun h => ?_) fun h => ?_ | refine XInt.a ?_) <;> conv => whnf) | ((first | (first | refine zh.mk ⟨hbl _, rfl, by omega, by omega⟩ ?_ | refine za.ret hof ?_) | ((refine XPut.bls n (by omega) rfl (by omega) ?_); (try rw [Bool.not_not]))); conv => whnf) | fail
    refine Walk.loopK zb [] [(1, _), (2, _), (3, _), (6, _), (7, _), (8, _), (9, _), (10, _)] ⟨rfl, rfl, rfl, rfl, rfl, rfl, rfl, rfl, trivial⟩ (fun _ : Unit => True) (fun _ => [(11, natA 0)]) (fun _ => jg (b.room + 1).toNat 0 :: (jx b p 0 ++ [.grow 4 false (bls (b.room + 1).toNat (updV (fun q => if q < n then psR b p 0 q else false) n u))])) (fun _ => 0) () trivial rfl ⟨rfl, trivial⟩ ?_
    intro _ _
    conv => whnf
    repeat' ((with_reducible first | apply XBr.ff | refine XBr.y fun h => ?_ | refine XBr.n fun h => ?_ | refine XBr.dec (fun h => ?_) fun h => ?_) <;> conv => whnf)
    obtain ⟨ag, hagv⟩ : ∃ ag, agB b p 0 n = ag := ⟨_, rfl⟩
    rw [hagv] at hag
    cases u with
    | false =>
      repeat' first | ((first | (with_reducible first | apply XBr.ff | refine XInt.a ?_) | (refine zh.mk ⟨hbl _, rfl, by omega, by omega⟩ ?_) | ((refine XGet.blsJ n (by omega) rfl (by omega) ?_); rw [yf]) | (refine XPut.bls n (by omega) rfl (by omega) ?_)); conv => whnf) | fail
      refine zk.go (n + 1) (by omega) (by omega) ?_ ⟨rfl, rfl, rfl, rfl, rfl, rfl, rfl, rfl, trivial⟩
      rw [<- qa false (show false = psR b p 0 n by rw [hps, hu]; rfl)] <;> rfl
    | true =>
      repeat' first | ((first | (with_reducible first | apply XBr.tt | refine XInt.a ?_) | (refine zh.mk ⟨hbl _, rfl, by omega, by omega⟩ ?_) | ((refine XGet.blsJ n (by omega) rfl (by omega) ?_); rw [yf]) | (first | refine XPut.bls n (by omega) rfl (by omega) ?_ | refine za.ret hag ?_)); conv => whnf) | fail
      refine zk.go (n + 1) (by omega) (by omega) ?_ ⟨rfl, rfl, rfl, rfl, rfl, rfl, rfl, rfl, trivial⟩
      rw [<- qa true (show ag = psR b p 0 n by rw [hps, hu, hagv]; rfl)] <;> rfl
   ·obtain rfl : n = (b.room + 1).toNat := by omega
    rw [show (bls (b.room + 1).toNat fun q => if q < (b.room + 1).toNat then psR b p 0 q else false) = bls (b.room + 1).toNat (psR b p 0) from zW fun q hq => if_pos hq]
    conv => whnf
    repeat' first | ((with_reducible first | refine XBr.y fun h => ?_ | refine XBr.n fun h => ?_ | refine XBr.dec (fun h => ?_) fun h => ?_ | refine XInt.a ?_) <;> conv => whnf) | ((first | refine zh.a ?_ | (refine zh.mk ⟨rfl, zj _ _, by unfold Room; constructor <;> (simp only [List.length_cons, List.length_nil]; omega)⟩ ?_)); conv => whnf) | fail
    refine zk.go 1 (by omega) (by omega) ?_ ⟨rfl, rfl, rfl, rfl, rfl, rfl, trivial⟩
    show jg (b.room + 1).toNat (0 + 1) :: jx b p (0 + 1) = _
    unfold jg
    rw [kr]; rfl
  obtain lq := fw.mk' m
  have hlq : lq.val = m := rfl
  have hmm : m = 1 \/ m = 2 \/ m = 3 \/ m = 4 \/ m = 5 \/ m = 6 \/ m = 7 \/ m = 8 \/ m = 9 \/ m = 10 := by omega
  rcases hmm with rfl | rfl | rfl | rfl | rfl | rfl | rfl | rfl | rfl | rfl
  all_goals
   conv => whnf
   repeat' first | ((with_reducible first | refine XBr.y fun h => ?_ | refine XBr.n fun h => ?_ | refine XBr.dec (fun h => ?_) fun h => ?_ | refine XInt.a ?_) <;> conv => whnf) | (refine zh.a ?_; conv => whnf) | fail
   refine Walk.loopK zb [] [(1, _), (2, _), (3, _), (6, _), (7, _), (8, _), (9, .gr (lq.val + 1) (b.room + 1).toNat)] ⟨rfl, rfl, rfl, rfl, rfl, rfl, rfl, trivial⟩ (fun n : Nat => (n : Int) <= b.room + 1) (fun n => [(10, natA n)]) (fun n => jg (b.room + 1).toNat lq.val :: (jx b p lq.val ++ [.grow 4 false (bls (b.room + 1).toNat fun q => if q < n then psR b p lq.val q else false)])) (fun n => (b.room + 1).toNat - n) 0 (by omega) (by rw [<- hz0 lq.val] <;> rfl) ⟨rfl, trivial⟩ ?_
   intro n hn
   have hbl := fun F => z9 (b.room + 1).toNat F
   have hag := wA b nl p lq.val n hs
   by_cases hlt : (n : Int) <= b.room
   ·have hps : psR b p lq.val n = ((List.range (b.room + 1).toNat).any (fun k => psR b p (lq.val - 1) k && nxF b (lq.val - 1) k n) && agB b p lq.val n) := rfl
    conv => whnf
    repeat' ((with_reducible first | refine XBr.y fun h => ?_ | refine XBr.n fun h => ?_ | refine XBr.dec (fun h => ?_) fun h => ?_ | refine XBr.y1 fun h => ?_ | refine XBr.n1 fun h => ?_ | refine XBr.beq (fun h => ?_) fun h => ?_) <;> conv => whnf)
    refine Walk.loopK zb [] [(1, _), (2, _), (3, _), (6, _), (7, _), (8, _), (9, _), (10, _)] ⟨rfl, rfl, rfl, rfl, rfl, rfl, rfl, rfl, trivial⟩ (fun k : Nat => (k : Int) <= b.room + 1) (fun k => [(11, natA k)]) (fun k => jg (b.room + 1).toNat lq.val :: (jx b p lq.val ++ [.grow 4 false (bls (b.room + 1).toNat (updV (fun q => if q < n then psR b p lq.val q else false) n ((List.range k).any fun k => psR b p (lq.val - 1) k && nxF b (lq.val - 1) k n)))])) (fun k => (b.room + 1).toNat - k) 0 (by omega) (by rw [show ((List.range 0).any fun k => psR b p (lq.val - 1) k && nxF b (lq.val - 1) k n) = false from rfl, row_first] <;> rfl) ⟨rfl, trivial⟩ ?_
    intro k hk
    by_cases hltk : (k : Int) <= b.room
    ·obtain ⟨r1, hr1⟩ : ∃ r1, psR b p (lq.val - 1) k = r1 := ⟨_, rfl⟩
     obtain ⟨r2, hr2⟩ : ∃ r2, nxF b (lq.val - 1) k n = r2 := ⟨_, rfl⟩
     obtain ⟨v, hv⟩ : ∃ v, ((List.range k).any fun k => psR b p (lq.val - 1) k && nxF b (lq.val - 1) k n) = v := ⟨_, rfl⟩
     rw [hv]
     conv => whnf
     repeat' ((with_reducible first | apply XBr.tt | refine XBr.y fun h => ?_ | refine XBr.n fun h => ?_ | refine XBr.dec (fun h => ?_) fun h => ?_) <;> conv => whnf)
     cases v with
     | true =>
       refine Walk.norm zb [] [(1, _), (2, _), (3, _), (6, _), (7, _), (8, _), (9, _), (10, _), (11, _)] ⟨rfl, rfl, rfl, rfl, rfl, rfl, rfl, rfl, rfl, trivial⟩ ?_
       conv => whnf
       repeat' first | ((first | (with_reducible first | apply XBr.tt | refine XInt.a ?_) | (refine zh.mk ⟨hbl _, rfl, by omega, by omega⟩ ?_) | ((refine XGet.blsJ n (by omega) rfl (by omega) ?_); rw [yf]) | ((refine XPut.bls n (by omega) rfl (by omega) ?_); rw [kR])); conv => whnf) | fail
       exact zk.go (k + 1) (by omega) (by omega) (by rw [wb, hv, hr1, hr2] <;> rfl) ⟨rfl, rfl, rfl, rfl, rfl, rfl, rfl, rfl, rfl, trivial⟩
     | false =>
       cases r1 with
       | false =>
         refine Walk.norm zb [] [(1, _), (2, _), (3, _), (6, _), (7, _), (8, _), (9, _), (10, _), (11, _)] ⟨rfl, rfl, rfl, rfl, rfl, rfl, rfl, rfl, rfl, trivial⟩ ?_
         conv => whnf
         repeat' first | ((first | (with_reducible first | apply XBr.ff | refine XInt.a ?_) | (refine zh.mk ⟨hbl _, rfl, by omega, by omega⟩ ?_) | ((refine XGet.blsJ n (by omega) rfl (by omega) ?_); rw [yf]) | (first | refine zh.mk ⟨zj _ _, rfl, by omega, by omega⟩ ?_ | refine XGet.vecV (lq.val - 1) (by omega) rfl (by omega) ?_) | ((refine XGet.blsJ k (by omega) rfl (by omega) ?_); erw [hr1]) | ((refine XPut.bls n (by omega) rfl (by omega) ?_); rw [kR])); conv => whnf) | fail
         exact zk.go (k + 1) (by omega) (by omega) (by rw [wb, hv, hr1, hr2] <;> rfl) ⟨rfl, rfl, rfl, rfl, rfl, rfl, rfl, rfl, rfl, trivial⟩
       | true =>
         refine Walk.norm zb [] [(1, _), (2, _), (3, _), (6, _), (7, _), (8, _), (9, _), (10, _), (11, _)] ⟨rfl, rfl, rfl, rfl, rfl, rfl, rfl, rfl, rfl, trivial⟩ ?_
         conv => whnf
         repeat' first | ((first | (with_reducible first | apply XBr.tt | apply XBr.ff | refine XInt.a ?_) | (refine zh.mk ⟨hbl _, rfl, by omega, by omega⟩ ?_) | ((refine XGet.blsJ n (by omega) rfl (by omega) ?_); rw [yf]) | (first | refine zh.mk ⟨zj _ _, rfl, by omega, by omega⟩ ?_ | refine XGet.vecV (lq.val - 1) (by omega) rfl (by omega) ?_) | ((refine XGet.blsJ k (by omega) rfl (by omega) ?_); erw [hr1]) | (first | refine XIx.vecV (lq.val - 1) (by omega) (by omega) rfl ?_ | refine XIx.vecV k (by omega) (by omega) rfl ?_) | ((refine XIx.bls n (by omega) (by omega) ?_); erw [hr2]) | ((refine XPut.bls n (by omega) rfl (by omega) ?_); rw [kR])); conv => whnf) | fail
         exact zk.go (k + 1) (by omega) (by omega) (by rw [wb, hv, hr1, hr2] <;> rfl) ⟨rfl, rfl, rfl, rfl, rfl, rfl, rfl, rfl, rfl, trivial⟩
    ·obtain rfl : k = (b.room + 1).toNat := by omega
     obtain ⟨u, hu⟩ : ∃ u, ((List.range (b.room + 1).toNat).any fun k => psR b p (lq.val - 1) k && nxF b (lq.val - 1) k n) = u := ⟨_, rfl⟩
     rw [hu]
     conv => whnf
     repeat' ((with_reducible first | apply XBr.tt | refine XBr.y fun h => ?_ | refine XBr.n fun h => ?_ | refine XBr.dec (fun h => ?_) fun h => ?_) <;> conv => whnf)
     obtain ⟨ag, hagv⟩ : ∃ ag, agB b p lq.val n = ag := ⟨_, rfl⟩
     rw [hagv] at hag
     cases u with
     | false =>
       repeat' first | ((first | (with_reducible first | apply XBr.ff | refine XInt.a ?_) | (refine zh.mk ⟨hbl _, rfl, by omega, by omega⟩ ?_) | ((refine XGet.blsJ n (by omega) rfl (by omega) ?_); rw [yf]) | (refine XPut.bls n (by omega) rfl (by omega) ?_)); conv => whnf) | fail
       refine zk.go (n + 1) (by omega) (by omega) ?_ ⟨rfl, rfl, rfl, rfl, rfl, rfl, rfl, rfl, trivial⟩
       rw [<- qa false (show false = psR b p lq.val n by rw [hps, hu]; rfl)] <;> rfl
     | true =>
       repeat' first | ((first | (with_reducible first | apply XBr.tt | refine XInt.a ?_) | (refine zh.mk ⟨hbl _, rfl, by omega, by omega⟩ ?_) | ((refine XGet.blsJ n (by omega) rfl (by omega) ?_); rw [yf]) | (first | refine XPut.bls n (by omega) rfl (by omega) ?_ | refine za.ret hag ?_)); conv => whnf) | fail
       refine zk.go (n + 1) (by omega) (by omega) ?_ ⟨rfl, rfl, rfl, rfl, rfl, rfl, rfl, rfl, trivial⟩
       rw [<- qa true (show ag = psR b p lq.val n by rw [hps, hu, hagv]; rfl)] <;> rfl
   ·obtain rfl : n = (b.room + 1).toNat := by omega
    rw [show (bls (b.room + 1).toNat fun q => if q < (b.room + 1).toNat then psR b p lq.val q else false) = bls (b.room + 1).toNat (psR b p lq.val) from zW fun q hq => if_pos hq]
    conv => whnf
    repeat' first | ((with_reducible first | refine XBr.y fun h => ?_ | refine XBr.n fun h => ?_ | refine XBr.dec (fun h => ?_) fun h => ?_ | refine XInt.a ?_) <;> conv => whnf) | ((first | refine zh.a ?_ | (refine zh.mk ⟨rfl, zj _ _, by unfold Room; constructor <;> (simp only [List.length_cons, List.length_nil]; omega)⟩ ?_)); conv => whnf) | fail
    refine zk.go (lq.val + 1) (by omega) (by omega) ?_ ⟨rfl, rfl, rfl, rfl, rfl, rfl, trivial⟩
    show jg (b.room + 1).toNat (lq.val + 1) :: jx b p (lq.val + 1) = _
    unfold jg
    rw [kr]; rfl
 ·obtain rfl : m = b.months.length + 1 := by omega
  conv => whnf
  repeat' ((with_reducible first | refine XBr.y fun h => ?_ | refine XBr.n fun h => ?_ | refine XBr.dec (fun h => ?_) fun h => ?_ | refine XInt.a ?_) <;> conv => whnf)
  refine Walk.nilrows 4 (10 - b.months.length) ?_
  rw [psPad m2]
  have hvl : (vecF (b.months.length + 1) fun i => AV.gr (i + 1) (b.room + 1).toNat).length = b.months.length + 1 := zj _ _
  refine Walk.loopK zb [] [(1, _), (3, _), (6, _), (7, _)] ⟨rfl, rfl, rfl, rfl, trivial⟩ (fun j : Nat => j <= b.months.length) (fun j => [(12, .int .i64 ((b.months.length : Int) - 1 - j))]) (fun j => psP b p j) (fun j => b.months.length - j) 0 (Nat.zero_le _) rfl ⟨congrArg (fun z => some (AV.int .i64 z)) (by omega), trivial⟩ ?_
  intro j hj
  by_cases hltj : j < b.months.length
  ·obtain ⟨N, hmj, hN10⟩ : ∃ N, j + (N + 1) = b.months.length /\ N < 10 := ⟨b.months.length - 1 - j, by omega, by omega⟩
   have hN : (b.months.length : Int) - 1 - j = (N : Int) := by omega
   have hat := psP_at b p hmj hN10
   have hnx := psP_next b p hmj hN10
   obtain lq := fw.mk' N
   have hlq : lq.val = N := rfl
   have hmm : N = 0 \/ N = 1 \/ N = 2 \/ N = 3 \/ N = 4 \/ N = 5 \/ N = 6 \/ N = 7 \/ N = 8 \/ N = 9 := by omega
   rcases hmm with rfl | rfl | rfl | rfl | rfl | rfl | rfl | rfl | rfl | rfl
   all_goals
    rw [hN, hat]
    conv => whnf
    repeat' ((with_reducible first | refine XBr.y fun h => ?_ | refine XBr.n fun h => ?_ | refine XBr.dec (fun h => ?_) fun h => ?_) <;> conv => whnf)
    refine Walk.loopK zb [] [(1, _), (3, _), (6, _), (7, _), (12, _)] ⟨rfl, rfl, rfl, rfl, rfl, trivial⟩ (fun n : Nat => (n : Int) <= b.room + 1) (fun n => [(13, natA n)]) (fun n => ((psP b p j).set (lq.val + 1) (.grow 4 false (bls (b.room + 1).toNat fun q => if q < n then psF b p lq.val q else psR b p lq.val q))).set (lq.val + 2) (.grow 4 false (bls (b.room + 1).toNat (psF b p (lq.val + 1))))) (fun n => (b.room + 1).toNat - n) 0 (by omega) (by rw [show (bls (b.room + 1).toNat fun q => if q < 0 then psF b p lq.val q else psR b p lq.val q) = bls (b.room + 1).toNat (psR b p lq.val) from zW fun q _ => if_neg (Nat.not_lt_zero q)] <;> rfl) ⟨rfl, trivial⟩ ?_
    intro n hn
    have hbl := fun F => z9 (b.room + 1).toNat F
    by_cases hlt : (n : Int) <= b.room
    ·conv => whnf
     repeat' ((with_reducible first | refine XBr.y fun h => ?_ | refine XBr.n fun h => ?_ | refine XBr.dec (fun h => ?_) fun h => ?_) <;> conv => whnf)
     refine Walk.loopK zb [] [(1, _), (3, _), (6, _), (7, _), (12, _), (13, _)] ⟨rfl, rfl, rfl, rfl, rfl, rfl, trivial⟩ (fun k : Nat => (k : Int) <= b.room + 1) (fun k => [(14, .bool ((List.range k).any (fun q => nxF b lq.val n q && psF b p (lq.val + 1) q))), (15, natA k)]) (fun _ => ((psP b p j).set (lq.val + 1) (.grow 4 false (bls (b.room + 1).toNat fun q => if q < n then psF b p lq.val q else psR b p lq.val q))).set (lq.val + 2) (.grow 4 false (bls (b.room + 1).toNat (psF b p (lq.val + 1))))) (fun k => (b.room + 1).toNat - k) 0 (by omega) rfl ⟨rfl, rfl, trivial⟩ ?_
     intro k hk
     by_cases hltk : (k : Int) <= b.room
     ·obtain ⟨r1, hr1⟩ : ∃ r1, nxF b lq.val n k = r1 := ⟨_, rfl⟩
      obtain ⟨r2, hr2⟩ : ∃ r2, psF b p (lq.val + 1) k = r2 := ⟨_, rfl⟩
      obtain ⟨v, hv⟩ : ∃ v, ((List.range k).any (fun q => nxF b lq.val n q && psF b p (lq.val + 1) q)) = v := ⟨_, rfl⟩
      rw [hv]
      conv => whnf
      repeat' ((with_reducible first | refine XBr.y fun h => ?_ | refine XBr.n fun h => ?_ | refine XBr.dec (fun h => ?_) fun h => ?_) <;> conv => whnf)
      cases v with
      | true =>
        refine Walk.norm zb [] [(1, _), (3, _), (6, _), (7, _), (12, _), (13, _), (14, _), (15, _)] ⟨rfl, rfl, rfl, rfl, rfl, rfl, rfl, rfl, trivial⟩ ?_
        conv => whnf
        repeat' ((with_reducible first | apply XBr.tt | refine XInt.a ?_); conv => whnf)
        exact zk.go (k + 1) (by omega) (by omega) rfl ⟨rfl, rfl, rfl, rfl, rfl, rfl, congrArg (fun z => some (AV.bool z)) (by rw [wb, hv, hr1, hr2] <;> rfl), rfl, trivial⟩
      | false =>
        cases r1 with
        | false =>
          refine Walk.norm zb [] [(1, _), (3, _), (6, _), (7, _), (12, _), (13, _), (14, _), (15, _)] ⟨rfl, rfl, rfl, rfl, rfl, rfl, rfl, rfl, trivial⟩ ?_
          conv => whnf
          repeat' first | ((first | (with_reducible first | apply XBr.ff | refine XInt.a ?_) | (first | refine XIx.vecV lq.val (by omega) (by omega) rfl ?_ | refine XIx.vecV n (by omega) (by omega) rfl ?_) | ((refine XIx.bls k (by omega) (by omega) ?_); erw [hr1])); conv => whnf) | fail
          exact zk.go (k + 1) (by omega) (by omega) rfl ⟨rfl, rfl, rfl, rfl, rfl, rfl, congrArg (fun z => some (AV.bool z)) (by rw [wb, hv, hr1, hr2] <;> rfl), rfl, trivial⟩
        | true =>
          refine Walk.norm zb [] [(1, _), (3, _), (6, _), (7, _), (12, _), (13, _), (14, _), (15, _)] ⟨rfl, rfl, rfl, rfl, rfl, rfl, rfl, rfl, trivial⟩ ?_
          conv => whnf
          repeat' first | ((first | (with_reducible first | apply XBr.tt | apply XBr.ff | refine XInt.a ?_) | (first | refine XIx.vecV lq.val (by omega) (by omega) rfl ?_ | refine XIx.vecV n (by omega) (by omega) rfl ?_) | ((refine XIx.bls k (by omega) (by omega) ?_); erw [hr1]) | (first | refine zh.mk ⟨hvl, rfl, by omega, by omega⟩ ?_ | refine XGet.vecV (lq.val + 1) (by omega) rfl (by omega) ?_ | refine zh.mk ⟨hbl _, rfl, by omega, by omega⟩ ?_) | ((refine XGet.blsJ k (by omega) rfl (by omega) ?_); erw [hr2])); conv => whnf) | fail
          exact zk.go (k + 1) (by omega) (by omega) rfl ⟨rfl, rfl, rfl, rfl, rfl, rfl, congrArg (fun z => some (AV.bool z)) (by rw [wb, hv, hr1, hr2] <;> rfl), rfl, trivial⟩
     ·obtain rfl : k = (b.room + 1).toNat := by omega
      obtain ⟨u, hu⟩ : ∃ u, ((List.range (b.room + 1).toNat).any (fun q => nxF b lq.val n q && psF b p (lq.val + 1) q)) = u := ⟨_, rfl⟩
      obtain ⟨r0, hr0⟩ : ∃ r0, psR b p lq.val n = r0 := ⟨_, rfl⟩
      rw [hu]
      conv => whnf
      cases r0 with
      | false =>
        repeat' first | ((with_reducible first | apply XBr.ff | refine XBr.y fun h => ?_ | refine XBr.n fun h => ?_ | refine XBr.dec (fun h => ?_) fun h => ?_ | refine XInt.a ?_ | apply Chk.go | apply ChkA.go | apply ChkF.go | apply ChkB.go | apply zw.mk) <;> conv => whnf) | (with_reducible first | apply XAnd.mk | exact trivial) | (exact zd.mk rfl rfl) | (apply Walk.drawN (id := 28) zb zg [] [16] (hsC [_, _]) [_, _, _, _, _, _, _, _, _, _, _, _, _, _, _, _, _] (by kernel_rfl) rfl) | ((first | (first | refine zh.mk ⟨hvl, rfl, by omega, by omega⟩ ?_ | refine XGet.vecV lq.val (by omega) rfl (by omega) ?_ | refine zh.mk ⟨hbl _, rfl, by omega, by omega⟩ ?_) | ((refine XGet.blsJ n (by omega) rfl (by omega) ?_); rw [if_neg (Nat.lt_irrefl n)]; erw [hr0]) | (refine XPut.bls n (by omega) rfl (by omega) ?_)); conv => whnf) | fail
        refine zk.go (n + 1) (by omega) (by omega) ?_ ⟨rfl, rfl, rfl, rfl, rfl, rfl, trivial⟩
        rw [<- zbu (show false = psF b p lq.val n by rw [wS (by omega), hr0, hu] <;> rfl)] <;> rfl
      | true =>
        repeat' first | ((with_reducible first | apply XBr.tt | refine XBr.y fun h => ?_ | refine XBr.n fun h => ?_ | refine XBr.dec (fun h => ?_) fun h => ?_ | refine XInt.a ?_ | apply Chk.go | apply ChkA.go | apply ChkF.go | apply ChkB.go | apply zw.mk) <;> conv => whnf) | (with_reducible first | apply XAnd.mk | exact trivial) | (exact zd.mk rfl rfl) | (apply Walk.drawN (id := 28) zb zg [] [16] (hsC [_, _]) [_, _, _, _, _, _, _, _, _, _, _, _, _, _, _, _, _] (by kernel_rfl) rfl) | ((first | (first | refine zh.mk ⟨hvl, rfl, by omega, by omega⟩ ?_ | refine XGet.vecV lq.val (by omega) rfl (by omega) ?_ | refine zh.mk ⟨hbl _, rfl, by omega, by omega⟩ ?_) | ((refine XGet.blsJ n (by omega) rfl (by omega) ?_); rw [if_neg (Nat.lt_irrefl n)]; erw [hr0]) | (refine XPut.bls n (by omega) rfl (by omega) ?_)); conv => whnf) | fail
        refine zk.go (n + 1) (by omega) (by omega) ?_ ⟨rfl, rfl, rfl, rfl, rfl, rfl, trivial⟩
        rw [<- zbu (show u = psF b p lq.val n by rw [wS (by omega), hr0, hu] <;> rfl)] <;> rfl
    ·obtain rfl : n = (b.room + 1).toNat := by omega
     rw [show (bls (b.room + 1).toNat fun q => if q < (b.room + 1).toNat then psF b p lq.val q else psR b p lq.val q) = bls (b.room + 1).toNat (psF b p lq.val) from zW fun q hq => if_pos hq]
     conv => whnf
     repeat' ((with_reducible first | refine XBr.y fun h => ?_ | refine XBr.n fun h => ?_ | refine XBr.dec (fun h => ?_) fun h => ?_ | refine XInt.a ?_) <;> conv => whnf)
     refine zk.go (j + 1) (by omega) (by omega) ?_ ⟨rfl, rfl, rfl, rfl, congrArg (fun z => some (AV.int .i64 z)) (by omega), trivial⟩
     rw [hnx] <;> rfl
  ·obtain rfl : j = b.months.length := by omega
   conv => whnf
   repeat' ((with_reducible first | refine XBr.y fun h => ?_ | refine XBr.n fun h => ?_ | refine XBr.dec (fun h => ?_) fun h => ?_) <;> conv => whnf)
   have hel : ∀ i, i <= b.months.length -> lget (psP b p b.months.length) (i + 1) = some (.grow 4 false (bls (b.room + 1).toNat (psF b p i))) := fun i hi => by
    have hii : i = 0 \/ i = 1 \/ i = 2 \/ i = 3 \/ i = 4 \/ i = 5 \/ i = 6 \/ i = 7 \/ i = 8 \/ i = 9 \/ i = 10 := by omega
    rcases hii with rfl | rfl | rfl | rfl | rfl | rfl | rfl | rfl | rfl | rfl | rfl <;> exact congrArg some (gM (by omega) hi)
   have ho1 : ∀ x ∈ vecF (b.months.length + 1) fun i => AV.gr (i + 1) (b.room + 1).toNat, x.one = true := fun x hx => by
    obtain ⟨i, _, rfl⟩ := yQ.1 hx; rfl
   have ho2 : ∀ x ∈ vecF (b.months.length + 1) fun m => AV.sl false (bls (b.room + 1).toNat (psF b p m)), x.one = true := fun x hx => by
    obtain ⟨i, _, rfl⟩ := yQ.1 hx; rfl
   refine ⟨Froz.gr (els := vecF (b.months.length + 1) fun i => AV.gr (i + 1) (b.room + 1).toNat) rfl hvl (by rw [zj, zj]) (fun e he => ?_) (by rw [yi ho2]; exact ho2) ?_⟩
   ·obtain ⟨i, _, rfl⟩ := yQ.1 he
    kernel_rfl
   ·rw [yi ho1, yi ho2]
    refine ⟨by rw [zj, zj], fun i x e => ?_⟩
    rw [zO] at e
    split at e
    ·rename_i hi
     cases e
     exact ⟨_, by rw [zO, if_pos hi], Froz.grow (hel i (by omega)) (z9 _ _) (kC _ _)⟩
    ·cases e
end GA
end
section
namespace GA
open Go Go.RowKit Go.Proofs
theorem vn {b : Bd} {m n k : Nat} : nxF b m n k = true ↔ k ∈ lvL b m n := by
 unfold nxF befF; exact decide_eq_true_iff
theorem W_iff {b : Bd} (ok : BedOk b) {n : Nat} : n < (b.room + 1).toNat ↔ (n : Int) <= b.room := by have := ok.r1; omega
theorem zbS {b : Bd} {p : Nat -> Bool} {m n : Nat} (h : psR b p m n = true) : agB b p m n = true := by
 cases m <;> (rw [psR, Bool.and_eq_true] at h; exact h.2)
theorem psF_R {b : Bd} {p : Nat -> Bool} {m n : Nat} (hm : m <= b.months.length) (h : psF b p m n = true) : psR b p m n = true := by
 by_cases h1 : m = b.months.length
 ·subst h1; rwa [zbR] at h
 ·rw [wS (by omega), Bool.and_eq_true] at h; exact h.1
theorem zaS {b : Bd} (ok : BedOk b) {p : Nat -> Bool} : ∀ (m n : Nat), m <= b.months.length -> (n : Int) <= b.room -> psR b p m n = true ->
  ∃ c : Nat -> Nat, c m = n /\ inZ (c 0 : Nat) (b.first - b.unsure) (b.first + b.unsure) = true /\ (∀ i, i <= m -> (c i : Int) <= b.room /\ agB b p i (c i) = true) /\ ∀ i, i < m -> c (i + 1) ∈ lvL b i (c i)
 | 0, n, _, hr, h => by
   have ha := zbS h
   rw [psR, Bool.and_eq_true] at h
   refine ⟨fun _ => n, rfl, h.1, fun i hi => ⟨hr, ?_⟩, fun i hi => by omega⟩
   obtain rfl : i = 0 := by omega
   exact ha
 | m + 1, n, hm, hr, h => by
   have ha := zbS h
   rw [psR, Bool.and_eq_true, List.any_eq_true] at h
   obtain ⟨⟨j, hj, h1⟩, -⟩ := h
   rw [Bool.and_eq_true] at h1
   obtain ⟨c, e, q1, q2, q3⟩ := zaS ok m j (by omega) ((W_iff ok).1 (List.mem_range.1 hj)) h1.1
   refine ⟨fun i => if i = m + 1 then n else c i, if_pos rfl, ?_, fun i hi => ?_, fun i hi => ?_⟩
   ·dsimp only; rw [if_neg (by omega)]; exact q1
   ·dsimp only
    by_cases hi2 : i = m + 1
    ·rw [if_pos hi2]; subst hi2; exact ⟨hr, ha⟩
    ·rw [if_neg hi2]; exact q2 i (by omega)
   ·dsimp only
    rw [if_neg (show ¬ i = m + 1 by omega)]
    by_cases hi2 : i = m
    ·rw [if_pos (by omega)]; subst hi2; rw [e]; exact vn.1 h1.2
    ·rw [if_neg (by omega)]; exact q3 i (by omega)
theorem fb {b : Bd} (ok : BedOk b) {p : Nat -> Bool} : ∀ (k n : Nat), k <= b.months.length -> (n : Int) <= b.room -> psF b p (b.months.length - k) n = true ->
  ∃ c : Nat -> Nat, c (b.months.length - k) = n /\ ∀ m, b.months.length - k <= m -> m <= b.months.length -> (c m : Int) <= b.room /\ agB b p m (c m) = true /\ (m < b.months.length -> c (m + 1) ∈ lvL b m (c m))
 | 0, n, _, hn, h => ⟨fun _ => n, rfl, fun m h1 h2 => by
   obtain rfl : m = b.months.length := by omega
   exact ⟨hn, zbS (psF_R (by omega) h), fun h => by omega⟩⟩
 | k + 1, n, hk, hn, h => by
   have ha := zbS (psF_R (by omega) h)
   rw [wS (by omega), Bool.and_eq_true, List.any_eq_true] at h
   obtain ⟨-, j, hj, h1⟩ := h
   rw [Bool.and_eq_true, show b.months.length - (k + 1) + 1 = b.months.length - k by omega] at h1
   obtain ⟨c, e, hc⟩ := fb ok k j (by omega) ((W_iff ok).1 (List.mem_range.1 hj)) h1.2
   refine ⟨fun m => if m = b.months.length - (k + 1) then n else c m, if_pos rfl, fun m q1 q2 => ?_⟩
   dsimp only
   rw [if_neg (show ¬ m + 1 = b.months.length - (k + 1) by omega)]
   by_cases hm : m = b.months.length - (k + 1)
   ·rw [if_pos hm]
    subst hm
    refine ⟨hn, ha, fun _ => ?_⟩
    rw [show b.months.length - (k + 1) + 1 = b.months.length - k by omega, e]; exact vn.1 h1.1
   ·rw [if_neg hm]; exact hc m (by omega) q2
theorem crs_join {b : Bd} {p : Nat -> Bool} {m n : Nat} {c d : Nat -> Nat} (hm : m <= b.months.length) (e : c m = n) (e2 : d m = n) (q1 : inZ (c 0 : Nat) (b.first - b.unsure) (b.first + b.unsure) = true) (q2 : ∀ i, i <= m -> (c i : Int) <= b.room /\ agB b p i (c i) = true) (q3 : ∀ i, i < m -> c (i + 1) ∈ lvL b i (c i))
  (q4 : ∀ i, m <= i -> i <= b.months.length -> (d i : Int) <= b.room /\ agB b p i (d i) = true /\ (i < b.months.length -> d (i + 1) ∈ lvL b i (d i))) : ∃ c, Crs b p c /\ c m = n := by
 refine ⟨fun i => if i <= m then c i else d i, ⟨?_, fun i hi => ?_, fun i hi => ?_, fun i hi => ?_⟩, by dsimp only; rw [if_pos (Nat.le_refl _), e]⟩
 ·rw [if_pos (Nat.zero_le _)]; exact q1
 ·split
  ·exact (q2 i (by omega)).1
  ·exact (q4 i (by omega) hi).1
 ·split
  ·exact (q2 i (by omega)).2
  ·exact (q4 i (by omega) hi).2.1
 ·by_cases h1 : i + 1 <= m
  ·rw [if_pos h1, if_pos (by omega)]; exact q3 i (by omega)
  ·rw [if_neg h1]
   by_cases h2 : i <= m
   ·obtain rfl : i = m := by omega
    rw [if_pos h2, e, <- e2]
    exact (q4 i (by omega) (by omega)).2.2 hi
   ·rw [if_neg h2]; exact (q4 i (by omega) (by omega)).2.2 hi
theorem Crs.psR {b : Bd} (ok : BedOk b) {p : Nat -> Bool} {c : Nat -> Nat} (h : Crs b p c) : ∀ m, m <= b.months.length -> GA.psR b p m (c m) = true
 | 0, _ => by rw [GA.psR, h.st, h.ag 0 (Nat.zero_le _)]; rfl
 | m + 1, hm => by
   rw [GA.psR, h.ag _ hm, Bool.and_true, List.any_eq_true]
   exact ⟨c m, List.mem_range.2 ((W_iff ok).2 (h.rm m (by omega))), by rw [h.psR ok m (by omega), vn.2 (h.nx m (by omega))]; rfl⟩
theorem Crs.psF {b : Bd} (ok : BedOk b) {p : Nat -> Bool} {c : Nat -> Nat} (h : Crs b p c) : ∀ k, k <= b.months.length -> GA.psF b p (b.months.length - k) (c (b.months.length - k)) = true
 | 0, _ => by rw [Nat.sub_zero, zbR]; exact h.psR ok _ (Nat.le_refl _)
 | k + 1, hk => by
   rw [wS (by omega), h.psR ok _ (by omega), Bool.true_and, List.any_eq_true, show b.months.length - (k + 1) + 1 = b.months.length - k by omega]
   refine ⟨c (b.months.length - k), List.mem_range.2 ((W_iff ok).2 (h.rm _ (by omega))), ?_⟩
   rw [h.psF ok k (by omega), Bool.and_true, vn]
   have := h.nx (b.months.length - (k + 1)) (by omega)
   rwa [show b.months.length - (k + 1) + 1 = b.months.length - k by omega] at this
theorem ps_iff {b : Bd} (ok : BedOk b) {p : Nat -> Bool} {m n : Nat} (hm : m <= b.months.length) (hn : (n : Int) <= b.room) : psF b p m n = true ↔ ∃ c, Crs b p c /\ c m = n := by
 constructor
 ·intro h
  obtain ⟨c, e, q1, q2, q3⟩ := zaS ok m n hm hn (psF_R hm h)
  obtain ⟨d, e2, q4⟩ := fb ok (b.months.length - m) n (by omega) hn (by rw [show b.months.length - (b.months.length - m) = m by omega]; exact h)
  rw [show b.months.length - (b.months.length - m) = m by omega] at e2 q4
  exact crs_join hm e e2 q1 q2 q3 q4
 ·rintro ⟨c, hc, rfl⟩
  have := hc.psF ok (b.months.length - m) (by omega)
  rwa [show b.months.length - (b.months.length - m) = m by omega] at this
theorem ps_cn {b : Bd} (ok : BedOk b) {p : Nat -> Bool} {m n : Nat} (hm : m <= b.months.length) (hn : (n : Int) <= b.room) : psF b p m n = cnB b p m n := by
 rw [Bool.eq_iff_iff, ps_iff ok hm hn, cn_iff ok hm]
theorem ps_list {b : Bd} (ok : BedOk b) {p : Nat -> Bool} {m : Nat} (hm : m <= b.months.length) : lstF (psF b p m) (b.room + 1).toNat = lstF (cnB b p m) 121 := by
 have h1 : lstF (psF b p m) (b.room + 1).toNat = lstF (cnB b p m) (b.room + 1).toNat := by
  unfold lstF
  refine congrArg _ (List.filter_congr fun n hn => ?_)
  exact ps_cn ok hm ((W_iff ok).1 (List.mem_range.1 hn))
 rw [h1]
 have h2 : ∀ d, lstF (cnB b p m) ((b.room + 1).toNat + d) = lstF (cnB b p m) (b.room + 1).toNat := by
  intro d
  induction d with
  | zero => rfl
  | succ d ih =>
    rw [show (b.room + 1).toNat + (d + 1) = ((b.room + 1).toNat + d) + 1 by omega, kw, if_neg ?_, ih]
    intro hc
    have := yr hc
    omega
 have := h2 (121 - (b.room + 1).toNat)
 rw [show (b.room + 1).toNat + (121 - (b.room + 1).toNat) = 121 by have := ok.r2; omega] at this
 exact this.symm
theorem zaL {b : Bd} {p : Nat -> Bool} : zH b p = decide (lstF (cnB b p 0) 121 = []) := by
 rw [Bool.eq_iff_iff, jq, decide_eq_true_iff]
 constructor
 ·intro h
  refine List.eq_nil_iff_forall_not_mem.2 fun x hx => ?_
  obtain ⟨n, hn, hc, -⟩ := jG.1 hx
  rw [h n hn] at hc; cases hc
 ·intro h n hn
  cases hc : cnB b p 0 n with
  | false => rfl
  | true =>
    have : (n : Int) ∈ lstF (cnB b p 0) 121 := jG.2 ⟨n, hn, hc, rfl⟩
    rw [h] at this; cases this
end GA
end
section
namespace GA
open Go Go.RowKit Go.Proofs
def lstG (f : Nat -> Bool) (k W : Nat) : Option Nat := (List.range' k (W - k)).find? f
theorem q7 {f : Nat -> Bool} {k W : Nat} (h : k < W) : lstG f k W = if f k = true then some k else lstG f (k + 1) W := by
 unfold lstG
 rw [show W - k = (W - (k + 1)) + 1 by omega, List.range'_succ, List.find?_cons]
 cases f k <;> simp
theorem lstG_end (f : Nat -> Bool) (W : Nat) : lstG f W W = none := by unfold lstG; rw [Nat.sub_self]; rfl
theorem lstG_none {f : Nat -> Bool} {k W : Nat} (h : ∀ n, k <= n -> n < W -> f n = false) : lstG f k W = none := by
 unfold lstG
 rw [List.find?_eq_none]
 intro x hx
 rw [List.mem_range'_1] at hx
 rw [h x hx.1 (by omega)]; simp
theorem lstG_is {f : Nat -> Bool} {W y : Nat} (h1 : y < W) (h2 : f y = true) (h3 : ∀ z, z < y -> f z = false) : ∀ k, k <= y -> lstG f k W = some y := fun k hk => by
 obtain ⟨d, hd⟩ : ∃ d, y = k + d := ⟨y - k, by omega⟩
 induction d generalizing k with
 | zero => rw [q7 (by omega), show k = y by omega, if_pos h2]
 | succ d ih => rw [q7 (by omega), if_neg (by rw [h3 k (by omega)]; simp)]; exact ih (k + 1) (by omega) (by omega)
theorem zcC {f : Nat -> Bool} {l : List Nat} {y : Nat} (hp : l.Pairwise (· < ·)) (h : l.find? f = some y) : ∀ z, z < y -> z ∈ l -> f z = false := fun z hz hm => by
 rw [List.find?_eq_some_iff_append] at h
 obtain ⟨-, l1, l2, rfl, ha⟩ := h
 rw [List.mem_append, List.mem_cons] at hm
 rw [List.pairwise_append, List.pairwise_cons] at hp
 rcases hm with hm | rfl | hm
 ·have := ha z hm; simpa using this
 ·omega
 ·have := hp.2.1.1 z hm; omega
def okC (x : Bd) (m n : Nat) : Bool := psF x alwP m n && (m == 0 || nxF x (m - 1) (cr x (m - 1)) n)
theorem lv_sorted (b : Bd) (m n : Nat) : (lvL b m n).Pairwise (· < ·) := by
 unfold lvL lvF
 exact List.pairwise_lt_range'
theorem zcV {l : List Nat} {f : Nat -> Bool} {x : Nat} (hx : x ∈ l) (hf : f x = true) : l.find? f = some ((l.find? f).getD 0) := by
 cases h : l.find? f with
 | none => exact absurd hf (List.find?_eq_none.1 h x hx)
 | some y => rfl
theorem okC_cr {x : Bd} (ok : BedOk x) (h : zH x alwP = false) {m : Nat} (hm : m <= x.months.length) : lstG (okC x m) 0 (x.room + 1).toNat = some (cr x m) := by
 have r1 := ok.r1
 have r2 := ok.r2
 have hc := v6 ok h m hm
 have hr := yr hc
 have hpc := fun (n : Nat) (hn : (n : Int) <= x.room) => ps_cn ok (p := alwP) (m := m) (n := n) hm hn
 refine lstG_is (y := cr x m) (by omega) ?_ ?_ 0 (Nat.zero_le _)
 ·unfold okC
  rw [hpc _ hr, hc, Bool.true_and]
  cases m with
  | zero => rfl
  | succ m =>
    rw [Nat.add_sub_cancel, vn.2 (cr_nx ok h (by omega)), Bool.or_true]
 ·intro z hz
  unfold okC
  rw [hpc z (by omega)]
  cases m with
  | zero =>
    obtain ⟨n, h1, h2⟩ := gX ok h 0 (Nat.zero_le _)
    have hg := zcV (List.mem_range.2 h1) h2
    have := zcC List.pairwise_lt_range hg z hz (List.mem_range.2 (by omega))
    rw [this]; rfl
  | succ m =>
    obtain ⟨k, h1, h2⟩ := v5 ok (m := m) (by omega) (v6 ok h m (by omega))
    have hg := zcV h1 h2
    cases hn : nxF x m (cr x m) z with
    | false => rw [Nat.add_sub_cancel, hn]; simp
    | true =>
      have := zcC (lv_sorted x m (cr x m)) hg z hz (vn.1 hn)
      rw [this]; rfl
theorem okC_no {x : Bd} (ok : BedOk x) (h : zH x alwP = true) : lstG (okC x 0) 0 (x.room + 1).toNat = none := lstG_none fun n _ hn => by
 have r1 := ok.r1
 have r2 := ok.r2
 unfold okC
 rw [ps_cn ok (Nat.zero_le _) (by omega), jq.1 h n (by omega)]; rfl
def outO (x : Bd) (m k : Nat) : Option (List Int) := match lstG (okC x m) k (x.room + 1).toNat with
 | some n => some (crL x m ++ [(n : Int)])
 | none => if m = 0 then none else some (crL x m)
end GA
end
section
namespace GA
open Go Go.RowKit Go.Proofs
theorem zbc {b b' : Bd} (ok : BedOk b) (ok' : BedOk b') (e : qv b b') {p p' : Nat -> Bool} (h : ∀ m n, agB b p m n = true -> agB b' p' m n = true) (hn : zH b p = false) : zH b' p' = false := by
 obtain ⟨c, hc⟩ := (zc0 ok).1 hn
 exact (zc0 ok').2 ⟨c, hc.other e fun m _ h1 => h m _ h1⟩
theorem qv.symm {b c : Bd} (h : qv b c) : qv c b := ⟨h.r.symm, h.f.symm, h.u.symm, h.m.symm⟩
theorem qA {b b' : Bd} (ok : BedOk b) (ok' : BedOk b') (e : qv b b') {p p' : Nat -> Bool} (h : ∀ m n, agB b p m n = true ↔ agB b' p' m n = true) : zH b p = zH b' p' := by
 cases h1 : zH b p with
 | false => exact (zbc ok ok' e (fun m n => (h m n).1) h1).symm
 | true =>
   cases h2 : zH b' p' with
   | true => rfl
   | false =>
     rw [zbc ok' ok e.symm (fun m n => (h m n).2) h2] at h1; cases h1
theorem cls_all {b : Bd} (ok : BedOk b) : clB b (evrL b) = zH b alwP := by
 refine qA ok ok ⟨rfl, rfl, rfl, rfl⟩ fun m n => ?_
 rw [jN, jN]
 constructor
 ·intro h i hi h1 _
  refine h i hi h1 ?_
  unfold conP evrL
  rw [List.contains_iff_mem]
  exact yQ.2 ⟨i, hi, rfl⟩
 ·intro h i hi h1 _
  exact h i hi h1 rfl
end GA
end
section
namespace GA
open Go Go.RowKit Go.Proofs
def befB (a c : List Int) : Bool := if a.length ≠ c.length then decide (a.length < c.length) else decide (cmpL a c < 0)
theorem zbv : ∀ a : List Int, cmpL a a = 0
 | [] => rfl
 | x :: a => by rw [cmpL, if_neg (by omega), if_neg (by omega), zbv a]
theorem zbe : ∀ a c : List Int, cmpL a c < 0 -> ¬ cmpL c a < 0
 | [], [], h => by simp [cmpL] at h
 | [], y :: c, _ => by simp [cmpL]
 | x :: a, [], h => by simp [cmpL] at h
 | x :: a, y :: c, h => by
   rw [cmpL] at h ⊢
   by_cases h1 : x < y
   ·rw [if_neg (by omega), if_pos h1]; omega
   ·rw [if_neg h1] at h
    by_cases h2 : y < x
    ·rw [if_pos h2] at h; omega
    ·rw [if_neg h2] at h
     rw [if_neg h2, if_neg h1]; exact zbe a c h
theorem zaP (a : List Int) : befB a a = false := by
 unfold befB; rw [if_neg (by simp), zbv]; rfl
theorem befB_anti {a c : List Int} (h : befB a c = true) : befB c a = false := by
 unfold befB at h ⊢
 by_cases hl : a.length ≠ c.length
 ·rw [if_pos hl, decide_eq_true_iff] at h
  rw [if_pos (Ne.symm hl)]; exact decide_eq_false (by omega)
 ·rw [if_neg hl, decide_eq_true_iff] at h
  rw [if_neg (fun h => hl (Ne.symm h))]; exact decide_eq_false (zbe _ _ h)
theorem zbq {q : List Int -> Bool} {S : Nat} : ∀ (k : Nat) (l : List Int) (f : Nat) (L : List Int), yc q S k l f = some L -> ∀ t : List Int, t.length = k -> Pck S f t -> q (l ++ t) = true -> ∃ u, L = l ++ u /\ (u = t \/ cmpL u t < 0)
 | 0, l, f, L, h, t, hl, hp, hq => by
   obtain ⟨u, e, hu, -, -⟩ := jy 0 l f L h
   exact ⟨u, e, .inl (by rw [List.length_eq_zero_iff.1 hu, List.length_eq_zero_iff.1 hl])⟩
 | k + 1, l, f, L, h, t, hl, hp, hq => by
   have go : ∀ d f, S - f = d -> yc q S (k + 1) l f = some L -> Pck S f t -> ∃ u, L = l ++ u /\ (u = t \/ cmpL u t < 0) := by
    intro d
    induction d with
    | zero => intro f hd h _; rw [zaO (by omega)] at h; cases h
    | succ d ih =>
      intro f hd h hp
      cases t with
      | nil => simp at hl
      | cons x t =>
        have hx := hp.b x List.mem_cons_self
        have hlt := List.pairwise_cons.1 hp.lt
        have hp2 : Pck S (f + 1) t \/ (f : Int) < x := by
         by_cases hxf : (f : Int) < x
         ·exact .inr hxf
         ·exact .inl ⟨hlt.2, fun y hy => by have := hlt.1 y hy; have := hp.b y (List.mem_cons_of_mem _ hy); omega⟩
        cases h1 : yc q S k (l ++ [(f : Int)]) (f + 1) with
        | some L' =>
          have h2 := qG (by omega) h1
          rw [h2] at h; cases h
          by_cases hxf : (f : Int) < x
          ·obtain ⟨u, e, -, -, -⟩ := jy _ _ _ _ h1
           refine ⟨(f : Int) :: u, by rw [e, List.append_assoc]; rfl, .inr ?_⟩
           rw [cmpL, if_pos hxf]; decide
          ·obtain rfl : x = f := by omega
           obtain ⟨u, e, hu⟩ := zbq k _ _ _ h1 t (by simpa using hl) (hp2.resolve_right (by omega)) (by rw [List.append_assoc]; exact hq)
           refine ⟨(f : Int) :: u, by rw [e, List.append_assoc]; rfl, ?_⟩
           rcases hu with rfl | hu
           ·exact .inl rfl
           ·refine .inr ?_
            rw [cmpL, if_neg (by omega), if_neg (by omega)]; exact hu
        | none =>
          rw [vD (by omega) h1] at h
          by_cases hxf : (f : Int) < x
          ·exact ih (f + 1) (by omega) h ⟨hp.lt, fun y hy => by
            rcases List.mem_cons.1 hy with rfl | hy2
            ·exact ⟨by omega, hx.2⟩
            ·have := hlt.1 y hy2; have := hp.b y hy; omega⟩
          ·obtain rfl : x = f := by omega
           have := wC _ _ _ h1 t (by simpa using hl) (hp2.resolve_right (by omega))
           rw [List.append_assoc] at this
           rw [show l ++ (f : Int) :: t = l ++ ([(f : Int)] ++ t) from rfl, this] at hq; cases hq
   exact go _ f rfl h hp
theorem vK {q : List Int -> Bool} {S : Nat} {L : List Int} (h : clsF q S = some L) {t : List Int} (hp : Pck S 0 t) (hq : q t = true) : t = L \/ befB L t = true := by
 obtain ⟨h1, h2, h3, h4⟩ := vm h
 unfold befB
 by_cases hl : L.length ≠ t.length
 ·rw [if_pos hl]
  by_cases h5 : t.length < L.length
  ·rw [h4 t h5 hp] at hq; cases hq
  ·exact .inr (decide_eq_true (by omega))
 ·rw [if_neg hl]
  unfold clsF at h
  rw [List.findSome?_eq_some_iff] at h
  obtain ⟨a, k, c, -, h5, -⟩ := h
  obtain ⟨u0, e0, hu0, -, -⟩ := jy _ _ _ _ h5
  have hk : L.length = k := by rw [e0, List.nil_append]; exact hu0
  obtain ⟨u, e, hu⟩ := zbq k [] 0 L h5 t (by omega) hp hq
  rw [List.nil_append] at e
  subst e
  rcases hu with rfl | hu
  ·exact .inl rfl
  ·exact .inr (decide_eq_true hu)
def lsS (S s : Nat) : List Int := lstF (fun i => s.testBit i) S
theorem zb2 {S s : Nat} {x : Int} : x ∈ lsS S s ↔ ∃ i : Nat, i < S /\ s.testBit i = true /\ x = i := jG
theorem gS (S s : Nat) : Pck S 0 (lsS S s) := by
 refine ⟨?_, fun x hx => ?_⟩
 ·unfold lsS lstF
  rw [List.pairwise_map]
  exact (List.pairwise_lt_range.sublist List.filter_sublist).imp fun h => by omega
 ·obtain ⟨i, hi, -, rfl⟩ := zb2.1 hx
  omega
theorem srt_ext : ∀ {a c : List Int}, a.Pairwise (· < ·) -> c.Pairwise (· < ·) -> (∀ x, x ∈ a ↔ x ∈ c) -> a = c
 | [], [], _, _, _ => rfl
 | [], y :: c, _, _, h => by have := (h y).2 List.mem_cons_self; cases this
 | x :: a, [], _, _, h => by have := (h x).1 List.mem_cons_self; cases this
 | x :: a, y :: c, ha, hc, h => by
   have a1 := List.pairwise_cons.1 ha
   have c1 := List.pairwise_cons.1 hc
   have e : x = y := by
    rcases List.mem_cons.1 ((h x).1 List.mem_cons_self) with h1 | h1
    ·exact h1
    ·rcases List.mem_cons.1 ((h y).2 List.mem_cons_self) with h2 | h2
     ·exact h2.symm
     ·have := a1.1 y h2; have := c1.1 x h1; omega
   subst e
   rw [srt_ext a1.2 c1.2 fun z => ?_]
   constructor
   ·intro hz
    rcases List.mem_cons.1 ((h z).1 (List.mem_cons_of_mem _ hz)) with h1 | h1
    ·have := a1.1 z hz; omega
    ·exact h1
   ·intro hz
    rcases List.mem_cons.1 ((h z).2 (List.mem_cons_of_mem _ hz)) with h1 | h1
    ·have := c1.1 z hz; omega
    ·exact h1
theorem lsS_ex {S : Nat} {L : List Int} (h : Pck S 0 L) : ∃ s, s < 2 ^ S /\ lsS S s = L := by
 have hb : ∀ k, (setN ((List.range S).map fun i : Nat => L.contains (i : Int))).testBit k = (decide (k < S) && L.contains (k : Int)) := fun k => by
  rw [zcX, List.getD_eq_getElem?_getD, List.getElem?_map]
  by_cases hk : k < S
  ·rw [List.getElem?_range hk, decide_eq_true hk]; rfl
  ·rw [List.getElem?_eq_none (by rw [List.length_range]; omega), decide_eq_false hk]; rfl
 refine ⟨setN ((List.range S).map fun i : Nat => L.contains (i : Int)), Nat.lt_pow_two_of_testBit _ fun i hi => by rw [hb, decide_eq_false (by omega)]; rfl, srt_ext (gS _ _).lt h.lt fun x => ?_⟩
 rw [zb2]
 constructor
 ·rintro ⟨i, hi, h1, rfl⟩
  rw [hb, decide_eq_true hi, Bool.true_and, List.contains_iff_mem] at h1
  exact h1
 ·intro hx
  have h1 := h.b x hx
  refine ⟨x.toNat, by omega, ?_, by omega⟩
  rw [hb, decide_eq_true (by omega), Bool.true_and, List.contains_iff_mem, Int.toNat_of_nonneg (by omega)]
  exact hx
def bstS (q : List Int -> Bool) (S : Nat) : Nat -> Option (List Int)
 | 0 => none
 | s + 1 => match bstS q S s with
   | none => if q (lsS S s) = true then some (lsS S s) else none
   | some l => if befB (lsS S s) l = true /\ q (lsS S s) = true then some (lsS S s) else some l
theorem bstS_q {q : List Int -> Bool} {S : Nat} : ∀ (s : Nat) (l : List Int), bstS q S s = some l -> q l = true
 | s + 1, l, h => by
   rw [bstS] at h
   cases h1 : bstS q S s with
   | none =>
     rw [h1] at h; dsimp only at h
     split at h
     ·rename_i h2; cases h; exact h2
     ·cases h
   | some l' =>
     rw [h1] at h; dsimp only at h
     split at h
     ·rename_i h2; cases h; exact h2.2
     ·cases h; exact bstS_q s _ h1
theorem bstS_cls {q : List Int -> Bool} {S : Nat} {L : List Int} (h : clsF q S = some L) : bstS q S (2 ^ S) = some L := by
 obtain ⟨h1, h2, -, -⟩ := vm h
 obtain ⟨s0, hs0, e0⟩ := lsS_ex h1
 have hlow : ∀ s, s <= s0 -> ∀ l, bstS q S s = some l -> l = L \/ befB L l = true := by
  intro s
  induction s with
  | zero => intro _ l hl; cases hl
  | succ s ih =>
    intro hs l hl
    rw [bstS] at hl
    cases h3 : bstS q S s with
    | none =>
      rw [h3] at hl; dsimp only at hl
      split at hl
      ·rename_i h4; cases hl; exact vK h (gS S s) h4
      ·cases hl
    | some l' =>
      rw [h3] at hl; dsimp only at hl
      split at hl
      ·rename_i h4; cases hl; exact vK h (gS S s) h4.2
      ·cases hl; exact ih (by omega) _ h3
 have hat : ∀ d, bstS q S (s0 + 1 + d) = some L := by
  intro d
  induction d with
  | zero =>
    rw [Nat.add_zero, bstS]
    cases h3 : bstS q S s0 with
    | none => dsimp only; rw [e0, if_pos h2]
    | some l' =>
      dsimp only
      rw [e0]
      rcases hlow s0 (Nat.le_refl _) l' h3 with rfl | h4
      ·rw [zaP, if_neg (by simp)]
      ·rw [if_pos ⟨h4, h2⟩]
  | succ d ih =>
    rw [show s0 + 1 + (d + 1) = (s0 + 1 + d) + 1 by omega, bstS, ih]
    dsimp only
    rw [if_neg]
    rintro ⟨h3, h4⟩
    rcases vK h (gS S (s0 + 1 + d)) h4 with h5 | h5
    ·rw [h5, zaP] at h3; cases h3
    ·rw [befB_anti h5] at h3; cases h3
 have := hat (2 ^ S - (s0 + 1))
 rwa [show s0 + 1 + (2 ^ S - (s0 + 1)) = 2 ^ S by omega] at this
theorem cls_set {b : Bd} (ok : BedOk b) (s : Nat) : zH b (fun i => s.testBit i) = clB b (lsS b.surveys.length s) := by
 refine qA ok ok ⟨rfl, rfl, rfl, rfl⟩ fun m n => ?_
 rw [jN, jN]
 have hc : ∀ i, i < b.surveys.length -> conP (lsS b.surveys.length s) i = s.testBit i := fun i hi => by
  unfold conP
  rw [Bool.eq_iff_iff, List.contains_iff_mem, zb2]
  exact ⟨fun ⟨j, _, h2, h3⟩ => by rw [show i = j by omega]; exact h2, fun h => ⟨i, hi, h, rfl⟩⟩
 exact ⟨fun h i hi h1 h2 => h i hi h1 (by rw [<- hc i hi]; exact h2), fun h i hi h1 h2 => h i hi h1 (by rw [hc i hi]; exact h2)⟩
theorem zdc {b : Bd} (ok : BedOk b) : zH b (fun _ => false) = clB b [] := by
 refine qA ok ok ⟨rfl, rfl, rfl, rfl⟩ fun m n => ?_
 rw [jN, jN]
 exact ⟨fun h i hi h1 h2 => by unfold conP at h2; simp at h2, fun h i hi h1 h2 => by cases h2⟩
end GA
end
section
namespace GA
open Go Go.RowKit Go.Proofs
theorem zdE (n1 n2 : Bool) (a c : List Int) (ha : a.length <= 100000) (hc : c.length <= 100000) : Comp Tryz.prog 259 [.sl n1 (ints a), .sl n2 (ints c)] (.bool (befB a c)) := by
 have e1 : ((ints a).length : Int) = a.length := by rw [zm]
 have e2 : ((ints c).length : Int) = c.length := by rw [zm]
 by_cases hl : a.length = c.length
 ·have hb : befB a c = decide (cmpL a c < 0) := by unfold befB; rw [if_neg (fun h => h hl)]
  rw [hb]
  refine Comp.body (T := tab) (res := [.tmp 4]) zb [] Tryz.func259 rfl (by kernel_rfl) Tryz.ntmps259 rfl (by simp only [List.length_cons, List.length_nil]; decide) (by simp only [lowL, AV.low, lowI]; rfl) ?_; conv => whnf
  repeat' ((with_reducible first | refine XBr.y2 fun h => ?_ | refine XBr.n2 fun h => ?_ | refine XBr.bne (fun h => ?_) fun h => ?_) <;> conv => whnf)
  refine Walk.loopK zb [] [(0, _), (1, _)] ⟨rfl, rfl, trivial⟩ (fun i : Nat => i <= a.length /\ cmpL a c = cmpL (a.drop i) (c.drop i)) (fun i => [(4, .bool false), (5, natA i)]) (fun _ => []) (fun i => a.length - i) 0 ⟨Nat.zero_le _, rfl⟩ rfl ⟨rfl, rfl, trivial⟩ ?_
  rintro i ⟨hi, hq⟩
  conv => whnf
  by_cases hlt : i < a.length
  ·have hn := cmpL_next (xs := a) (ys := c) (k := i) hlt (by omega)
   rw [<- hq] at hn
   repeat' first | ((with_reducible first | refine XBr.y fun h => ?_ | refine XBr.n fun h => ?_ | refine XBr.dec (fun h => ?_) fun h => ?_ | refine XBr.y2 fun h => ?_ | refine XBr.n2 fun h => ?_ | refine XBr.bne (fun h => ?_) fun h => ?_ | refine XInt.a ?_ | apply Chk.go | apply ChkA.go | apply ChkF.go | apply ChkB.go | apply zw.mk) <;> conv => whnf) | (refine XIx.a ?_; conv => whnf) | (with_reducible first | apply XAnd.mk | exact trivial) | (exact zd.mk rfl rfl) | (apply Walk.drawN (id := 6) zb zg [] [] (hsU _) [_, _, _, _, _, _, _, _, _] (by kernel_rfl) rfl) | (apply Walk.drawN (id := 7) zb zg [] [] (hsU _) [_, _, _, _, _, _, _, _, _, _] (by kernel_rfl) rfl) | fail
   ·refine XOut.bool ?_
    rw [decide_eq_decide, hn]
    split
    ·omega
    ·split <;> omega
   ·rw [if_neg (by omega), if_neg (by omega)] at hn
    exact zk.go (i + 1) ⟨by omega, hn⟩ (by omega) rfl ⟨rfl, rfl, rfl, rfl, trivial⟩
  ·obtain rfl : i = a.length := by omega
   have h0 := cmpL_both (xs := a) (ys := c) (k := a.length) (Nat.le_refl _) (by omega)
   rw [<- hq] at h0
   rw [h0]
   repeat' ((with_reducible first | refine XBr.y fun h => ?_ | refine XBr.n fun h => ?_ | refine XBr.dec (fun h => ?_) fun h => ?_) <;> conv => whnf)
   exact ⟨.low rfl⟩
 ·have hb : befB a c = decide (a.length < c.length) := by unfold befB; rw [if_pos hl]
  rw [hb]
  refine Comp.body (T := tab) (res := [.tmp 4]) zb [] Tryz.func259 rfl (by kernel_rfl) Tryz.ntmps259 rfl (by simp only [List.length_cons, List.length_nil]; decide) (by simp only [lowL, AV.low, lowI]; rfl) ?_; conv => whnf
  repeat' ((with_reducible first | refine XBr.y2 fun h => ?_ | refine XBr.n2 fun h => ?_ | refine XBr.bne (fun h => ?_) fun h => ?_) <;> conv => whnf)
  refine XOut.bool ?_
  rw [decide_eq_decide]; omega
theorem blsRen (f : Nat -> Nat) (t : TypeId) (W : Nat) (F : Nat -> Bool) : (Blk.grow t false (bls W F)).ren f = .grow t false (bls W F) := by simp only [Blk.ren, vl (kC W F)]
theorem counts_g (b : Bd) (hs : b.surveys.length <= 100000) : yz Tryz.prog 219 [bedA b, .bool false] (.gr 0 b.surveys.length) [.grow 4 false (bls b.surveys.length fun _ => false)] := by
 have e1 : ((b.surveys.map suA).length : Int) = b.surveys.length := by rw [List.length_map]
 refine yz.body (T := tab) (res := [.tmp 4]) zb [] Tryz.func219 rfl (by kernel_rfl) Tryz.ntmps219 rfl (by simp only [List.length_cons, List.length_nil]; decide) (by simp only [lowL, bedL, AV.low]; rfl) rfl (fun x hx => by simp only [List.mem_cons, List.not_mem_nil, or_false] at hx; subst hx; exact kC _ _) ?_; conv => whnf
 have e3 : (((b.surveys.map suA).length : Int)).toNat = b.surveys.length := by rw [e1, Int.toNat_natCast]
 repeat' (refine zh.a ?_; conv => whnf)
 refine Walk.loopK zb [] [(1, _), (4, _), (5, .gr 0 b.surveys.length)] ⟨rfl, rfl, by rw [<- e3]; rfl, trivial⟩ (fun k : Nat => k <= b.surveys.length) (fun k => [(6, natA k)]) (fun k => [.grow 4 false (bls b.surveys.length fun _ => false)]) (fun k => b.surveys.length - k) 0 (Nat.zero_le _) ?_ ⟨rfl, trivial⟩ ?_
 ·show [Blk.grow _ false (bls _ _)] = [Blk.grow _ false (List.replicate _ _)]
  rw [e3, bls0]
 intro k hk
 conv => whnf
 by_cases hlt : k < b.surveys.length
 ·skip
  repeat' first | ((with_reducible first | refine XBr.y fun h => ?_ | refine XBr.n fun h => ?_ | refine XBr.dec (fun h => ?_) fun h => ?_ | refine XInt.a ?_) <;> conv => whnf) | ((first | refine zh.mk (z9 _ _) ?_ | refine zh.mk ⟨z9 _ _, rfl, by omega, by omega⟩ ?_ | refine XPut.bls k (by omega) rfl (by omega) ?_); conv => whnf) | fail
  refine zk.go (k + 1) (by omega) (by omega) (congrArg (fun z => [Blk.grow _ false z]) (zW fun i hi => ?_)) ⟨rfl, rfl, rfl, rfl, trivial⟩
  unfold updV; split <;> rfl
 ·obtain rfl : k = b.surveys.length := by omega
  repeat' first | ((with_reducible first | refine XBr.y fun h => ?_ | refine XBr.n fun h => ?_ | refine XBr.dec (fun h => ?_) fun h => ?_) <;> conv => whnf) | ((refine zh.mk (z9 _ _) ?_); conv => whnf) | fail
  exact wO.mk' [0] rfl (by decide) ⟨congrArg some (blsRen _ _ _ _).symm, trivial⟩ rfl
theorem za.counts {b : Bd} {H : List Blk} {k : AV -> List Blk -> Prop} (hs : b.surveys.length <= 100000) (hk : k (.gr H.length b.surveys.length) (H ++ [.grow 4 false (bls b.surveys.length fun _ => false)])) : za Tryz.prog 219 [bedA b, .bool false] H k := by
 refine za.give (counts_g b hs) ?_
 rw [List.map_cons, blsRen, List.map_nil]; exact hk
def posL (b : Bd) (p : Nat -> Bool) : List Int := lstF (cnB b p 0) 121
theorem posL_c (b : Bd) (ok : BedOk b) (p : Nat -> Bool) : Comp Tryz.prog 220 [.sl false (bls (b.room + 1).toNat (psF b p 0))] (.sl (posL b p).isEmpty (ints (posL b p))) := by
 have h := vi false (psF b p 0) (b.room + 1).toNat (by have := ok.r2; omega)
 rw [ps_list ok (Nat.zero_le _)] at h
 exact h
theorem fm (b : Bd) (p : Nat -> Bool) : ((ints (posL b p)).length : Int) = (posL b p).length /\ (zH b p = true -> (posL b p).length = 0) /\ (zH b p = false -> 0 < (posL b p).length) := by
 refine ⟨by rw [zm], fun h => ?_, fun h => ?_⟩
 ·rw [zaL, decide_eq_true_iff] at h
  unfold posL; rw [h]; rfl
 ·rw [zaL, decide_eq_false_iff_not] at h
  exact List.length_pos_iff.2 h
end GA
end
section
namespace GA
open Go Go.RowKit Go.Proofs
set_option maxHeartbeats 1000000 in
theorem refCan_c (b : Bd) (hm : b.months.length <= 100000) (hs : b.surveys.length <= 100000) : Comp Tryz.prog 120 [bedA b] (canV b) := by
 have hck := yd b hm hs
 unfold canV
 by_cases hE : bedE b = 0
 ·have ok := (zz b).1 hE
  have m1 := ok.m1
  have m2 := ok.m2
  have r2 := ok.r2
  have hnx := zcp b ok.toBedOk
  have hc1 := wY b true hs
  have hp1 := wz b ok.toBedOk hs false alwP
  rw [hE] at hck
  have hls : ∀ m, m <= b.months.length -> Comp Tryz.prog 220 [.sl false (bls (b.room + 1).toNat (psF b alwP m))] (slA (canL b m)) := fun m hm => by
   have h := vi false (psF b alwP m) (b.room + 1).toNat (by omega)
   rw [ps_list ok.toBedOk hm] at h
   exact h
  have elen : ((vecF (b.months.length + 1) fun m => AV.sl false (bls (b.room + 1).toNat (psF b alwP m))).length : Int) = b.months.length + 1 := by rw [zj]; omega
  by_cases hP : z8 b = 0
  ·rw [if_neg (fun h => h hP)]
   refine Comp.body (T := tab) (res := [.tmp 2, .tmp 3]) zb [] Tryz.func120 rfl (by kernel_rfl) Tryz.ntmps120 rfl (by simp only [List.length_cons, List.length_nil]; decide) (by simp only [lowL, bedL]; rfl) ?_; conv => whnf
   repeat' first | ((with_reducible first | refine XBr.y2 fun h => ?_ | refine XBr.n2 fun h => ?_ | refine XBr.bne (fun h => ?_) fun h => ?_ | apply Chk.go | apply ChkA.go | apply ChkF.go | apply ChkB.go | apply zw.mk) <;> conv => whnf) | (with_reducible first | apply XAnd.mk | exact trivial) | (exact zd.mk rfl rfl) | (apply Walk.drawN (id := 4) zb zg [] [] (hsU _) [_, _, _, _, _, _, _] (by kernel_rfl) rfl) | ((first | refine za.ret hck ?_ | refine za.ret hnx ?_ | refine za.ret hc1 ?_ | refine za.ret hp1 ?_); conv => whnf) | fail
   refine Walk.nilgr 6 22 rfl ?_
   refine Walk.loopGK zb [] [(5, _)] ⟨rfl, trivial⟩ (fun i : Nat => i <= b.months.length + 1) (fun i => [(6, .gr 0 i), (7, natA i)]) (fun i => [.grow 22 (decide (i = 0)) (canS b i)]) (fun i => b.months.length + 1 - i) 0 (Nat.zero_le _) ?_ ⟨rfl, rfl, trivial⟩ ?_ (fun _ _ => (show (1 : Nat) <= 1 from Nat.le_refl 1)) ?_
   ·have e0 : canS b 0 = [] := List.length_eq_zero_iff.1 (qB b 0)
    rw [e0]; rfl
   ·intro i _
    refine ⟨fun z hz => ?_, fun z hz => ?_⟩
    ·rw [List.mem_singleton] at hz; subst hz; exact vh _
    ·simp only [List.cons_append, List.nil_append, List.mem_cons, List.not_mem_nil, or_false] at hz
     rcases hz with rfl | rfl | rfl <;> first | rfl | exact y5 fun _ _ => kC _ _
   intro i hi
   have hli := qB b i
   conv => whnf
   by_cases hlt : i < b.months.length + 1
   ·have hcl := gK hP (m := i) (by omega)
    have hls := hls i (by omega)
    have hcn : ((ints (canL b i)).length : Int) = (canL b i).length := by rw [zm]
    repeat' first | ((with_reducible first | refine XBr.y fun h => ?_ | refine XBr.n fun h => ?_ | refine XBr.dec (fun h => ?_) fun h => ?_ | refine XBr.y1 fun h => ?_ | refine XBr.n1 fun h => ?_ | refine XBr.beq (fun h => ?_) fun h => ?_ | refine XInt.a ?_) <;> conv => whnf) | ((first | refine zh.a ?_ | refine XIx.vecV i rfl (by omega) rfl ?_ | refine za.ret hls ?_); conv => whnf) | fail
    refine zp.go (i + 1) [] (by omega) (by omega) ?_ ⟨rfl, rfl, rfl, trivial⟩
    show [Blk.grow _ (decide (i + 1 = 0)) (canS b (i + 1))] ++ _ = [Blk.grow _ (decide (i = 0) && false) (canS b i ++ [_])]
    have e : canS b (i + 1) = canS b i ++ [slA (canL b i)] := by
     unfold canS yL
     rw [vecF, dif_neg (by omega), Nat.add_sub_cancel, List.map_append]; rfl
    rw [e, Bool.and_false]; rfl
   ·obtain rfl : i = b.months.length + 1 := by omega
    repeat' ((with_reducible first | refine XBr.y fun h => ?_ | refine XBr.n fun h => ?_ | refine XBr.dec (fun h => ?_) fun h => ?_) <;> conv => whnf)
    exact ⟨Froz.tup (.cons (Froz.grow rfl hli (vh _)) (.cons (.low rfl) .nil))⟩
  ·have hnn : zH b alwP = true := by
    cases h : zH b alwP with
    | true => rfl
    | false => exact absurd (ky.2 ⟨ok, h⟩) hP
   have h7 : z8 b = 7 := by unfold z8; rw [if_neg (fun h => h hE), if_pos hnn]
   have hc0 : canL b 0 = [] := fH fun i hi => jq.1 hnn i hi
   have hls := hls 0 (Nat.zero_le _)
   rw [hc0] at hls
   rw [if_pos hP, h7]
   refine Comp.body (T := tab) (res := [.tmp 2, .tmp 3]) zb [] Tryz.func120 rfl (by kernel_rfl) Tryz.ntmps120 rfl (by simp only [List.length_cons, List.length_nil]; decide) (by simp only [lowL, bedL]; rfl) ?_; conv => whnf
   repeat' first | ((with_reducible first | refine XBr.y2 fun h => ?_ | refine XBr.n2 fun h => ?_ | refine XBr.bne (fun h => ?_) fun h => ?_ | apply Chk.go | apply ChkA.go | apply ChkF.go | apply ChkB.go | apply zw.mk) <;> conv => whnf) | (with_reducible first | apply XAnd.mk | exact trivial) | (exact zd.mk rfl rfl) | (apply Walk.drawN (id := 4) zb zg [] [] (hsU _) [_, _, _, _, _, _, _] (by kernel_rfl) rfl) | ((first | refine za.ret hck ?_ | refine za.ret hnx ?_ | refine za.ret hc1 ?_ | refine za.ret hp1 ?_); conv => whnf) | fail
   refine Walk.loopK zb [] [(5, _)] ⟨rfl, trivial⟩ (fun _ : Unit => True) (fun _ => [(6, .sl true []), (7, natA 0)]) (fun _ => []) (fun _ => 0) () trivial rfl ⟨rfl, rfl, trivial⟩ ?_
   intro _ _
   conv => whnf
   repeat' first | ((with_reducible first | refine XBr.y fun h => ?_ | refine XBr.n fun h => ?_ | refine XBr.dec (fun h => ?_) fun h => ?_ | refine XBr.y1 fun h => ?_ | refine XBr.n1 fun h => ?_ | refine XBr.beq (fun h => ?_) fun h => ?_ | refine XInt.a ?_) <;> conv => whnf) | ((first | refine zh.a ?_ | refine XIx.vecV 0 rfl (by omega) rfl ?_ | refine za.ret hls ?_); conv => whnf) | fail
   ·exact ⟨.low rfl⟩
   ·exfalso; rename_i h; exact h rfl
 ·have hP : z8 b = bedE b := by unfold z8; rw [if_pos hE]
  rw [if_pos (by rw [hP]; exact hE), hP]
  generalize bedE b = e at hck hE
  refine Comp.body (T := tab) (res := [.tmp 2, .tmp 3]) zb [] Tryz.func120 rfl (by kernel_rfl) Tryz.ntmps120 rfl (by simp only [List.length_cons, List.length_nil]; decide) (by simp only [lowL, bedL]; rfl) ?_; conv => whnf
  repeat' first | ((with_reducible first | refine XBr.y2 fun h => ?_ | refine XBr.n2 fun h => ?_ | refine XBr.bne (fun h => ?_) fun h => ?_) <;> conv => whnf) | ((refine za.ret hck ?_); conv => whnf) | fail
  exact ⟨.low rfl⟩
end GA
end
