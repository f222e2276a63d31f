/- Part 4 of a proof: S10, S11, S12, Abs26, Abs27, S13, S14, Abs28, S15, Abs29. -/
import Derived.Test.YtlbdomhfcghjdaaP3
section
namespace GA
open Go Go.RowKit Go.Proofs
set_option pp.deepTerms true
set_option maxRecDepth 8000
set_option linter.unusedVariables false
set_option linter.unusedSimpArgs false

theorem xdrop_nats {xs : List Nat} {i : Nat} {k : List AV → Prop} (hi : i < xs.length) (h : k (.int .i64 (xs.getD i 0 : Nat) :: (nats xs).drop (0 + i * 1 + 1))) : xdrop (0 + i * 1) (nats xs) k :=
  xdrop_at _ (by have := nats_at (xs := xs) (i := i) hi []; rw [List.append_nil] at this; rw [Nat.zero_add]; exact this) h
theorem xspl_nats {xs : List Nat} {i : Nat} {v : Int} {k : List AV → Prop} (m : Nat) (hv : v = (m : Int)) (hi : i < xs.length) (h : k (nats (xs.set i m))) : xspl (nats xs) (0 + i * 1) [.int .i64 v] k := by
  subst hv
  refine xspl_to _ (by simp; omega) ?_ h
  rw [Nat.zero_add, Nat.mul_one]
  have e : (nats xs).set i (natA m) = nats (xs.set i m) := (List.map_set ..).symm
  rw [← e]
  have hl : i < (nats xs).length := by simpa using hi
  rw [List.set_eq_take_append_cons_drop, if_pos hl]
  simp [splice, natA]

theorem xtk_all : ∀ {n : Nat} {cs : List AV} {k : List AV → Prop}, cs.length = n → k cs → xtk n cs k
  | 0, [], _, _, h => h
  | n + 1, c :: cs, k, hl, h => xtk_all (n := n) (cs := cs) (k := fun l => k (c :: l)) (by simpa using hl) h
  | 0, _ :: _, _, hl, _ => by simp at hl
  | n + 1, [], _, hl, _ => by simp at hl
theorem xn_all : ∀ {n : Nat} {cs : List AV} {A : Prop}, cs.length = n → A → xn n cs A
  | 0, [], _, _, h => h
  | n + 1, c :: cs, A, hl, h => xn_all (n := n) (cs := cs) (A := A) (by simpa using hl) h
  | 0, _ :: _, _, hl, _ => by simp at hl
  | n + 1, [], _, hl, _ => by simp at hl
theorem xspl_all {c vs : List AV} {k : List AV → Prop} (hl : vs.length = c.length) (h : k vs) : xspl c 0 vs k :=
  xspl_to vs (by omega) (by simp [splice, hl]) h
def joinStep (b : List Nat) (p : Int × Int) : List Nat :=
  let all := b.getD p.1.toNat 0 ||| b.getD p.2.toNat 0
  b.mapIdx fun i x => if all / 2 ^ i % 2 = 1 then x ||| all else x
def joinR (l : Ld) (b : List Nat) : List Nat := l.wth.foldl joinStep b

def hsK (H : List Blk) : List Bool → List Blk := fun _ => H
theorem joinStep_len (b : List Nat) (p : Int × Int) : (joinStep b p).length = b.length := by simp [joinStep]
def joinI (l : Ld) (b : List Nat) (i : Nat) : List Nat := (l.wth.take i).foldl joinStep b
theorem foldl_len : ∀ (ps : List (Int × Int)) (b : List Nat), (ps.foldl joinStep b).length = b.length
  | [], _ => rfl
  | p :: ps, b => by rw [List.foldl_cons, foldl_len ps, joinStep_len]
def joinP (all : Nat) (b : List Nat) (j : Nat) : List Nat := b.mapIdx fun i x => if i < j ∧ all / 2 ^ i % 2 = 1 then x ||| all else x
theorem joinP_len (all : Nat) (b : List Nat) (j : Nat) : (joinP all b j).length = b.length := by simp [joinP]
theorem joinP_zero (all : Nat) (b : List Nat) : joinP all b 0 = b := by
  unfold joinP; apply List.ext_getElem (by simp); intro i h1 h2; simp
theorem joinP_at (all : Nat) (b : List Nat) (j : Nat) (hj : j < b.length) : (joinP all b j).getD j 0 = b.getD j 0 := by
  unfold joinP
  rw [List.getD_eq_getElem?_getD, List.getElem?_mapIdx, List.getD_eq_getElem?_getD, List.getElem?_eq_getElem hj]
  simp
theorem joinP_hit (all : Nat) (b : List Nat) (j : Nat) (hj : j < b.length) (hb : all / 2 ^ j % 2 = 1) : (joinP all b j).set j (b.getD j 0 ||| all) = joinP all b (j + 1) := by
  unfold joinP; apply List.ext_getElem (by simp)
  intro i h1 h2
  simp only [List.getElem_set, List.getElem_mapIdx]
  by_cases h : j = i
  · subst h; rw [if_pos rfl, if_pos ⟨by omega, hb⟩, List.getD_eq_getElem?_getD, List.getElem?_eq_getElem hj]; rfl
  · rw [if_neg h]
    by_cases h3 : i < j
    · simp [h3, show i < j + 1 by omega]
    · rw [if_neg (fun hh => h3 hh.1), if_neg (fun hh => by omega)]
theorem joinP_miss (all : Nat) (b : List Nat) (j : Nat) (hb : ¬ all / 2 ^ j % 2 = 1) : joinP all b j = joinP all b (j + 1) := by
  unfold joinP; apply List.ext_getElem (by simp)
  intro i h1 h2
  simp only [List.getElem_mapIdx]
  by_cases h : j = i
  · subst h; rw [if_neg (fun hh => hb hh.2), if_neg (fun hh => hb hh.2)]
  · by_cases h3 : i < j
    · simp [h3, show i < j + 1 by omega]
    · rw [if_neg (fun hh => h3 hh.1), if_neg (fun hh => by omega)]
theorem joinP_full (b : List Nat) (p : Int × Int) (hb : b.length = 9) : joinP (b.getD p.1.toNat 0 ||| b.getD p.2.toNat 0) b 9 = joinStep b p := by
  unfold joinP joinStep; apply List.ext_getElem (by simp)
  intro i h1 h2
  have : i < 9 := by simpa [hb] using h1
  simp only [List.getElem_mapIdx, this, true_and]
theorem joinStep_small (b : List Nat) (p : Int × Int) (hs : ∀ i, b.getD i 0 < 512) : ∀ i, (joinStep b p).getD i 0 < 512 := by
  intro i
  unfold joinStep
  rw [List.getD_eq_getElem?_getD, List.getElem?_mapIdx]
  rcases Nat.lt_or_ge i b.length with h | h
  · rw [List.getElem?_eq_getElem h]
    have h1 := hs i
    rw [List.getD_eq_getElem?_getD, List.getElem?_eq_getElem h] at h1
    have hall : (b.getD p.1.toNat 0 ||| b.getD p.2.toNat 0) < 2 ^ 9 := Nat.or_lt_two_pow (hs _) (hs _)
    simp only [Option.map_some, Option.getD_some] at h1 ⊢
    split
    · exact Nat.or_lt_two_pow (n := 9) h1 hall
    · exact h1
  · rw [List.getElem?_eq_none h]; simp
theorem joinI_small (l : Ld) (b : List Nat) (hs : ∀ i, b.getD i 0 < 512) (i : Nat) : ∀ j, (joinI l b i).getD j 0 < 512 := by
  unfold joinI
  generalize l.wth.take i = ps
  induction ps generalizing b with
  | nil => exact hs
  | cons p ps ih => rw [List.foldl_cons]; exact ih _ (joinStep_small b p hs)
theorem joinI_next (l : Ld) (b : List Nat) (i : Nat) (hi : i < l.wth.length) : joinI l b (i + 1) = joinStep (joinI l b i) (l.wth.getD i default) := by
  unfold joinI; rw [take_next hi, List.foldl_append]; rfl
theorem joined_c (l : Ld) (b : List Nat) (hb : b.length = 9) (hs : ∀ i, b.getD i 0 < 512) (hw : l.wth.length ≤ 8) (hp : ∀ p ∈ l.wth, 0 ≤ p.1 ∧ p.1 < 9 ∧ 0 ≤ p.2 ∧ p.2 < 9) : Comp Try.prog 131 [ldA l, .agg (nats b)] (.agg (nats (joinR l b))) := by
  refine Comp.body' (T := tab) (res := [.cell 4 159]) tab_ok [3] Try.func131 rfl (by kernel_rfl) Try.ntmps131 rfl (by simp only [List.length_cons, List.length_nil]; decide) (by simp only [lowL, AV.low, ldL, lowN]; rfl) ?_; conv => whnf
  refine Walk.loopG tab_ok [] (fun i : Nat => i ≤ l.wth.length) (fun i => [(2, .pim (ldC l)), (3, .ptr 0 0), (4, .ptr 1 0), (10, .sl l.nlw (l.wth.map prA)), (11, .int .i64 l.wth.length), (12, .int .i64 i)])
    (fun i => [.cells (nats (joinI l b i)), .cells (nats (List.replicate 9 0))]) (fun i => l.wth.length - i) 0 (by omega) rfl ⟨rfl, rfl, rfl, rfl, by simp only [List.length_map]; rfl, rfl, trivial⟩ ?_ ?_ ?_
  · intro i _
    constructor
    · intro x hx; simp at hx; rcases hx with rfl | rfl
      · simp only [Blk.low, lowN]
      · rfl
    · intro p hp; simp at hp; rcases hp with rfl | rfl | rfl | rfl | rfl | rfl <;> simp [AV.low, lowPr, lowLd]
  · intro i _; simp
  intro i hi
  have hlen : (joinI l b i).length = 9 := by unfold joinI; rw [foldl_len]; exact hb
  conv => whnf
  repeat' first | ((with_reducible first | apply XBr.tt | apply XBr.ff | apply Chk.go | apply ChkA.go | apply ChkF.go | apply ChkB.go | apply XArr.pim0 | apply XArr.pim1); conv => whnf) | (with_reducible apply XBr.not) | ((with_reducible apply XBr.dec) <;> (intro h; first | (exfalso; omega) | ((try simp only [List.length_map] at h); first | (exfalso; omega) | (conv => whnf)))) | ((with_reducible first | apply XBr.beq | apply XBr.bne) <;> (intro h; first | (exfalso; omega) | (conv => whnf))) | ((with_reducible refine XInt.i64 (by omega) (by omega) ?_); conv => whnf) | ((with_reducible refine XHold.mk ?_ ?_); (first | omega | rfl | decide | exact ⟨rfl, by decide, rfl⟩ | exact wideI _ | exact widePr _ | exact wideSk _ | (unfold Room; constructor <;> ((try simp) <;> omega)) | exact ⟨rfl, by simp only [List.length_map], by unfold Room; constructor <;> ((try simp) <;> omega)⟩ | exact ⟨by omega, by omega, by unfold Room; constructor <;> ((try simp) <;> omega)⟩); conv => whnf) | ((first | ((with_reducible refine XIx.nat ?_ ?_ ?_); omega; (intro _; rfl)) | ((with_reducible refine XIx.map ?_ ?_ ?_ ?_); omega; omega; (intro _; rfl))); conv => whnf) | (with_reducible apply XAnd.mk) | (exact XSame.mk rfl rfl) | (exact XSame.mk (by first | rfl | (simp only [List.map_append, List.length_append, List.length_map]; done) | (simp only [List.map_append, List.length_append, List.length_map]; rfl)) (by first | rfl | (simp only [List.map_append]; done) | (simp only [List.map_append]; rfl))) | (with_reducible exact trivial) | ((first | (with_reducible refine xdrop_app (by rw [List.length_map]; omega) ?_) | (with_reducible refine XDrop.desk (by assumption) ?_) | (with_reducible first | refine XArr.ints (by omega) (by omega) (by omega) ?_ | refine XArr.intsA (by omega) (by omega) (by omega) ?_) | ((with_reducible first | refine XArr.nats ?_ ?_ ?_ | refine XArr.natsA ?_ ?_ ?_ | refine XArr.ptr ?_ ?_ ?_); omega; omega)); conv => whnf) | ((with_reducible apply XBr.mk') <;> (intro h; conv => whnf))
  · obtain ⟨p1, p2, p3, p4⟩ := hp _ (getD_mem (xs := l.wth) (i := i) (d := default) (by omega))
    apply Walk.drawX tab_ok mixed_ok [] [] (hsK _) [_, _, _, _, _, _, _, _, _, _] (by kernel_rfl) rfl
    · skip
      repeat' first | ((with_reducible first | apply XBr.tt | apply XBr.ff | apply Chk.go | apply ChkA.go | apply ChkF.go | apply ChkB.go | apply XArr.pim0 | apply XArr.pim1); conv => whnf) | (with_reducible apply XBr.not) | ((with_reducible apply XBr.dec) <;> (intro h; first | (exfalso; omega) | ((try simp only [List.length_map] at h); first | (exfalso; omega) | (conv => whnf)))) | ((with_reducible first | apply XBr.beq | apply XBr.bne) <;> (intro h; first | (exfalso; omega) | (conv => whnf))) | ((with_reducible refine XInt.i64 (by omega) (by omega) ?_); conv => whnf) | ((with_reducible refine XHold.mk ?_ ?_); (first | omega | rfl | decide | exact ⟨rfl, by decide, rfl⟩ | exact wideI _ | exact widePr _ | exact wideSk _ | (unfold Room; constructor <;> ((try simp) <;> omega)) | exact ⟨rfl, by simp only [List.length_map], by unfold Room; constructor <;> ((try simp) <;> omega)⟩ | exact ⟨by omega, by omega, by unfold Room; constructor <;> ((try simp) <;> omega)⟩); conv => whnf) | ((first | ((with_reducible refine XIx.nat ?_ ?_ ?_); omega; (intro _; rfl)) | ((with_reducible refine XIx.map ?_ ?_ ?_ ?_); omega; omega; (intro _; rfl))); conv => whnf) | (with_reducible apply XAnd.mk) | (exact XSame.mk rfl rfl) | (exact XSame.mk (by first | rfl | (simp only [List.map_append, List.length_append, List.length_map]; done) | (simp only [List.map_append, List.length_append, List.length_map]; rfl)) (by first | rfl | (simp only [List.map_append]; done) | (simp only [List.map_append]; rfl))) | (with_reducible exact trivial) | ((first | (with_reducible refine xdrop_app (by rw [List.length_map]; omega) ?_) | (with_reducible refine XDrop.desk (by assumption) ?_) | (with_reducible first | refine XArr.ints (by omega) (by omega) (by omega) ?_ | refine XArr.intsA (by omega) (by omega) (by omega) ?_) | ((with_reducible first | refine XArr.nats ?_ ?_ ?_ | refine XArr.natsA ?_ ?_ ?_ | refine XArr.ptr ?_ ?_ ?_); omega; omega) | (refine xdrop_nats (by omega) ?_)); conv => whnf) | ((with_reducible apply XBr.mk') <;> (intro h; conv => whnf))
    · skip
      repeat' first | ((with_reducible first | apply XBr.tt | apply XBr.ff | apply Chk.go | apply ChkA.go | apply ChkF.go | apply ChkB.go | apply XArr.pim0 | apply XArr.pim1); conv => whnf) | (with_reducible apply XBr.not) | ((with_reducible apply XBr.dec) <;> (intro h; first | (exfalso; omega) | ((try simp only [List.length_map] at h); first | (exfalso; omega) | (conv => whnf)))) | ((with_reducible first | apply XBr.beq | apply XBr.bne) <;> (intro h; first | (exfalso; omega) | (conv => whnf))) | ((with_reducible refine XInt.i64 (by omega) (by omega) ?_); conv => whnf) | ((with_reducible refine XHold.mk ?_ ?_); (first | omega | rfl | decide | exact ⟨rfl, by decide, rfl⟩ | exact wideI _ | exact widePr _ | exact wideSk _ | (unfold Room; constructor <;> ((try simp) <;> omega)) | exact ⟨rfl, by simp only [List.length_map], by unfold Room; constructor <;> ((try simp) <;> omega)⟩ | exact ⟨by omega, by omega, by unfold Room; constructor <;> ((try simp) <;> omega)⟩); conv => whnf) | ((first | ((with_reducible refine XIx.nat ?_ ?_ ?_); omega; (intro _; rfl)) | ((with_reducible refine XIx.map ?_ ?_ ?_ ?_); omega; omega; (intro _; rfl))); conv => whnf) | (with_reducible apply XAnd.mk) | (exact XSame.mk rfl rfl) | (exact XSame.mk (by first | rfl | (simp only [List.map_append, List.length_append, List.length_map]; done) | (simp only [List.map_append, List.length_append, List.length_map]; rfl)) (by first | rfl | (simp only [List.map_append]; done) | (simp only [List.map_append]; rfl))) | (with_reducible exact trivial) | ((first | (with_reducible refine xdrop_app (by rw [List.length_map]; omega) ?_) | (with_reducible refine XDrop.desk (by assumption) ?_) | (with_reducible first | refine XArr.ints (by omega) (by omega) (by omega) ?_ | refine XArr.intsA (by omega) (by omega) (by omega) ?_) | ((with_reducible first | refine XArr.nats ?_ ?_ ?_ | refine XArr.natsA ?_ ?_ ?_ | refine XArr.ptr ?_ ?_ ?_); omega; omega)); conv => whnf) | ((with_reducible apply XBr.mk') <;> (intro h; conv => whnf))
    · conv => whnf
      repeat' first | ((with_reducible first | apply XBr.tt | apply XBr.ff | apply Chk.go | apply ChkA.go | apply ChkF.go | apply ChkB.go | apply XArr.pim0 | apply XArr.pim1); conv => whnf) | (with_reducible apply XBr.not) | ((with_reducible apply XBr.dec) <;> (intro h; first | (exfalso; omega) | ((try simp only [List.length_map] at h); first | (exfalso; omega) | (conv => whnf)))) | ((with_reducible first | apply XBr.beq | apply XBr.bne) <;> (intro h; first | (exfalso; omega) | (conv => whnf))) | ((with_reducible refine XInt.i64 (by omega) (by omega) ?_); conv => whnf) | ((with_reducible refine XHold.mk ?_ ?_); (first | omega | rfl | decide | exact ⟨rfl, by decide, rfl⟩ | exact wideI _ | exact widePr _ | exact wideSk _ | (unfold Room; constructor <;> ((try simp) <;> omega)) | exact ⟨rfl, by simp only [List.length_map], by unfold Room; constructor <;> ((try simp) <;> omega)⟩ | exact ⟨by omega, by omega, by unfold Room; constructor <;> ((try simp) <;> omega)⟩); conv => whnf) | ((first | ((with_reducible refine XIx.nat ?_ ?_ ?_); omega; (intro _; rfl)) | ((with_reducible refine XIx.map ?_ ?_ ?_ ?_); omega; omega; (intro _; rfl))); conv => whnf) | (with_reducible apply XAnd.mk) | (exact XSame.mk rfl rfl) | (exact XSame.mk (by first | rfl | (simp only [List.map_append, List.length_append, List.length_map]; done) | (simp only [List.map_append, List.length_append, List.length_map]; rfl)) (by first | rfl | (simp only [List.map_append]; done) | (simp only [List.map_append]; rfl))) | (with_reducible exact trivial) | ((first | (with_reducible refine xdrop_app (by rw [List.length_map]; omega) ?_) | (with_reducible refine XDrop.desk (by assumption) ?_) | (with_reducible first | refine XArr.ints (by omega) (by omega) (by omega) ?_ | refine XArr.intsA (by omega) (by omega) (by omega) ?_) | ((with_reducible first | refine XArr.nats ?_ ?_ ?_ | refine XArr.natsA ?_ ?_ ?_ | refine XArr.ptr ?_ ?_ ?_); omega; omega)); conv => whnf) | ((with_reducible apply XBr.mk') <;> (intro h; conv => whnf))
      have hsm := joinI_small l b hs i
      have hx := hsm (l.wth.getD i default).1.toNat
      have hy := hsm (l.wth.getD i default).2.toNat
      have hall : ((joinI l b i).getD (l.wth.getD i default).1.toNat 0 ||| (joinI l b i).getD (l.wth.getD i default).2.toNat 0) < 2 ^ 9 := Nat.or_lt_two_pow (n := 9) hx hy
      have hor := ior_nat (a := (joinI l b i).getD (l.wth.getD i default).1.toNat 0) (b := (joinI l b i).getD (l.wth.getD i default).2.toNat 0) (by omega) (by omega)
      generalize hae : ((joinI l b i).getD (l.wth.getD i default).1.toNat 0 ||| (joinI l b i).getD (l.wth.getD i default).2.toNat 0) = all at hall hor
      refine Walk.loop tab_ok [] (fun j : Nat => j ≤ 9) (fun j => [(2, .pim (ldC l)), (3, .ptr 0 0), (4, .ptr 1 0), (10, .sl l.nlw (l.wth.map prA)), (11, .int .i64 l.wth.length), (12, .int .i64 i), (7, .int .i64 all), (25, .int .i64 j)])
        (fun j => [.cells (nats (joinP all (joinI l b i) j)), .cells (nats (List.replicate 9 0)), .cells [.int .i64 (l.wth.getD i default).1, .int .i64 (l.wth.getD i default).2]]) (fun j => 9 - j) 0 (by omega) (by simp only [joinP_zero]; rfl) ⟨rfl, rfl, rfl, rfl, rfl, rfl, congrArg (fun n => some (AV.int .i64 n)) hor, rfl, trivial⟩ ?_
      intro j hj
      have hpl : (joinP all (joinI l b i) j).length = 9 := by rw [joinP_len]; exact hlen
      have hbit := bit_at (set := all) (p := (j : Int)) (by omega) (by omega) (by omega)
      rw [Int.toNat_natCast] at hbit
      conv => whnf
      repeat' first | ((with_reducible first | apply XBr.tt | apply XBr.ff | apply Chk.go | apply ChkA.go | apply ChkF.go | apply ChkB.go | apply XArr.pim0 | apply XArr.pim1); conv => whnf) | (with_reducible apply XBr.not) | ((with_reducible apply XBr.dec) <;> (intro h; first | (exfalso; omega) | ((try simp only [List.length_map] at h); first | (exfalso; omega) | (conv => whnf)))) | ((with_reducible first | apply XBr.beq | apply XBr.bne) <;> (intro h; first | (exfalso; omega) | (conv => whnf))) | ((with_reducible refine XInt.i64 (by omega) (by omega) ?_); conv => whnf) | ((with_reducible refine XHold.mk ?_ ?_); (first | omega | rfl | decide | exact ⟨rfl, by decide, rfl⟩ | exact wideI _ | exact widePr _ | exact wideSk _ | (unfold Room; constructor <;> ((try simp) <;> omega)) | exact ⟨rfl, by simp only [List.length_map], by unfold Room; constructor <;> ((try simp) <;> omega)⟩ | exact ⟨by omega, by omega, by unfold Room; constructor <;> ((try simp) <;> omega)⟩); conv => whnf) | ((first | ((with_reducible refine XIx.nat ?_ ?_ ?_); omega; (intro _; rfl)) | ((with_reducible refine XIx.map ?_ ?_ ?_ ?_); omega; omega; (intro _; rfl))); conv => whnf) | (with_reducible apply XAnd.mk) | (exact XSame.mk rfl rfl) | (exact XSame.mk (by first | rfl | (simp only [List.map_append, List.length_append, List.length_map]; done) | (simp only [List.map_append, List.length_append, List.length_map]; rfl)) (by first | rfl | (simp only [List.map_append]; done) | (simp only [List.map_append]; rfl))) | (with_reducible exact trivial) | ((first | (with_reducible refine xdrop_app (by rw [List.length_map]; omega) ?_) | (with_reducible refine XDrop.desk (by assumption) ?_) | (with_reducible first | refine XArr.ints (by omega) (by omega) (by omega) ?_ | refine XArr.intsA (by omega) (by omega) (by omega) ?_) | ((with_reducible first | refine XArr.nats ?_ ?_ ?_ | refine XArr.natsA ?_ ?_ ?_ | refine XArr.ptr ?_ ?_ ?_); omega; omega)); conv => whnf) | ((with_reducible apply XBr.mk') <;> (intro h; conv => whnf))
      · rw [Int.toNat_natCast, hbit] at h
        have hb1 : all / 2 ^ j % 2 = 1 := by omega
        refine xdrop_nats (i := j) (by omega) ?_
        conv => whnf
        repeat' first | ((with_reducible first | apply XBr.tt | apply XBr.ff | apply Chk.go | apply ChkA.go | apply ChkF.go | apply ChkB.go | apply XArr.pim0 | apply XArr.pim1); conv => whnf) | (with_reducible apply XBr.not) | ((with_reducible apply XBr.dec) <;> (intro h; first | (exfalso; omega) | ((try simp only [List.length_map] at h); first | (exfalso; omega) | (conv => whnf)))) | ((with_reducible first | apply XBr.beq | apply XBr.bne) <;> (intro h; first | (exfalso; omega) | (conv => whnf))) | ((with_reducible refine XInt.i64 (by omega) (by omega) ?_); conv => whnf) | ((with_reducible refine XHold.mk ?_ ?_); (first | omega | rfl | decide | exact ⟨rfl, by decide, rfl⟩ | exact wideI _ | exact widePr _ | exact wideSk _ | (unfold Room; constructor <;> ((try simp) <;> omega)) | exact ⟨rfl, by simp only [List.length_map], by unfold Room; constructor <;> ((try simp) <;> omega)⟩ | exact ⟨by omega, by omega, by unfold Room; constructor <;> ((try simp) <;> omega)⟩); conv => whnf) | ((first | ((with_reducible refine XIx.nat ?_ ?_ ?_); omega; (intro _; rfl)) | ((with_reducible refine XIx.map ?_ ?_ ?_ ?_); omega; omega; (intro _; rfl))); conv => whnf) | (with_reducible apply XAnd.mk) | (exact XSame.mk rfl rfl) | (exact XSame.mk (by first | rfl | (simp only [List.map_append, List.length_append, List.length_map]; done) | (simp only [List.map_append, List.length_append, List.length_map]; rfl)) (by first | rfl | (simp only [List.map_append]; done) | (simp only [List.map_append]; rfl))) | (with_reducible exact trivial) | ((first | (with_reducible refine xdrop_app (by rw [List.length_map]; omega) ?_) | (with_reducible refine XDrop.desk (by assumption) ?_) | (with_reducible first | refine XArr.ints (by omega) (by omega) (by omega) ?_ | refine XArr.intsA (by omega) (by omega) (by omega) ?_) | ((with_reducible first | refine XArr.nats ?_ ?_ ?_ | refine XArr.natsA ?_ ?_ ?_ | refine XArr.ptr ?_ ?_ ?_); omega; omega)); conv => whnf) | ((with_reducible apply XBr.mk') <;> (intro h; conv => whnf))
        have hlt := hsm j
        refine xspl_nats ((joinI l b i).getD j 0 ||| all) (by rw [joinP_at _ _ _ (by omega)]; exact ior_nat (by omega) (by omega)) (by omega) ?_
        conv => whnf
        repeat' first | ((with_reducible first | apply XBr.tt | apply XBr.ff | apply Chk.go | apply ChkA.go | apply ChkF.go | apply ChkB.go | apply XArr.pim0 | apply XArr.pim1); conv => whnf) | (with_reducible apply XBr.not) | ((with_reducible apply XBr.dec) <;> (intro h; first | (exfalso; omega) | ((try simp only [List.length_map] at h); first | (exfalso; omega) | (conv => whnf)))) | ((with_reducible first | apply XBr.beq | apply XBr.bne) <;> (intro h; first | (exfalso; omega) | (conv => whnf))) | ((with_reducible refine XInt.i64 (by omega) (by omega) ?_); conv => whnf) | ((with_reducible refine XHold.mk ?_ ?_); (first | omega | rfl | decide | exact ⟨rfl, by decide, rfl⟩ | exact wideI _ | exact widePr _ | exact wideSk _ | (unfold Room; constructor <;> ((try simp) <;> omega)) | exact ⟨rfl, by simp only [List.length_map], by unfold Room; constructor <;> ((try simp) <;> omega)⟩ | exact ⟨by omega, by omega, by unfold Room; constructor <;> ((try simp) <;> omega)⟩); conv => whnf) | ((first | ((with_reducible refine XIx.nat ?_ ?_ ?_); omega; (intro _; rfl)) | ((with_reducible refine XIx.map ?_ ?_ ?_ ?_); omega; omega; (intro _; rfl))); conv => whnf) | (with_reducible apply XAnd.mk) | (exact XSame.mk rfl rfl) | (exact XSame.mk (by first | rfl | (simp only [List.map_append, List.length_append, List.length_map]; done) | (simp only [List.map_append, List.length_append, List.length_map]; rfl)) (by first | rfl | (simp only [List.map_append]; done) | (simp only [List.map_append]; rfl))) | (with_reducible exact trivial) | ((first | (with_reducible refine xdrop_app (by rw [List.length_map]; omega) ?_) | (with_reducible refine XDrop.desk (by assumption) ?_) | (with_reducible first | refine XArr.ints (by omega) (by omega) (by omega) ?_ | refine XArr.intsA (by omega) (by omega) (by omega) ?_) | ((with_reducible first | refine XArr.nats ?_ ?_ ?_ | refine XArr.natsA ?_ ?_ ?_ | refine XArr.ptr ?_ ?_ ?_); omega; omega)); conv => whnf) | ((with_reducible apply XBr.mk') <;> (intro h; conv => whnf))
        refine XAgain.go (j + 1) (by omega) (by omega) ?_ ⟨rfl, rfl, rfl, rfl, rfl, rfl, rfl, rfl, trivial⟩
        rw [Int.toNat_natCast, joinP_hit _ _ _ (by omega) hb1]
      · rw [Int.toNat_natCast, hbit] at h
        have hb1 : ¬ all / 2 ^ j % 2 = 1 := by omega
        refine XAgain.go (j + 1) (by omega) (by omega) ?_ ⟨rfl, rfl, rfl, rfl, rfl, rfl, rfl, rfl, trivial⟩
        rw [← joinP_miss _ _ _ hb1]
      · have : j = 9 := by omega
        subst this
        refine XAgainG.go (i + 1) [.cells [.int .i64 (l.wth.getD i default).1, .int .i64 (l.wth.getD i default).2]] (by omega) (by omega) ?_ ⟨rfl, rfl, rfl, rfl, rfl, rfl, trivial⟩
        rw [joinI_next l b i (by omega), ← joinP_full _ _ hlen, hae]; rfl
  · have hie : i = l.wth.length := by omega
    have hfin : joinI l b i = joinR l b := by unfold joinI joinR; rw [hie, List.take_length]
    rw [hfin] at hlen ⊢
    refine xtk_all (by rw [List.length_map]; exact hlen) ?_
    conv => whnf
    refine xn_all (by rw [List.length_map]; exact hlen) ?_
    conv => whnf
    refine xspl_all (by rw [List.length_map, List.length_map]; exact hlen) ?_
    conv => whnf
    refine xtk_all (by rw [List.length_map]; exact hlen) ?_
    conv => whnf
    exact ⟨Froz.low (by show lowL 0 _ = true; exact lowN _)⟩
end GA
end

section
namespace GA
open Go Go.RowKit Go.Proofs
set_option pp.deepTerms true
set_option maxRecDepth 8000
set_option linter.unusedVariables false
set_option linter.unusedSimpArgs false

theorem XInt.eq {x y : Int} {k : AV → Prop} (e : x = y) (h1 : -9223372036854775808 ≤ y) (h2 : y ≤ 9223372036854775807) (h : k (.int .i64 y)) : XInt .i64 x k := by subst e; exact .i64 h1 h2 h
theorem pow9 {n : Nat} (h : n ≤ 9) : 2 ^ n ≤ 512 ∧ 0 < 2 ^ n := ⟨Nat.pow_le_pow_right (n := 2) (by omega) h, Nat.two_pow_pos n⟩
theorem all_c (d : Dk) (h : d.l.sacks.length ≤ 9) : Comp Try.prog 79 [.pim (deskC d)] (.int .i64 ((2 ^ d.l.sacks.length - 1 : Nat) : Int)) := by
  refine Comp.body (T := tab) (res := [.tmp 2]) tab_ok [] Try.func79 rfl (by kernel_rfl) Try.ntmps79 rfl (by simp only [List.length_cons, List.length_nil]; decide) (by simp only [lowL, AV.low, lowDk]; rfl) ?_; conv => whnf
  repeat' first | ((with_reducible first | apply XBr.tt | apply XBr.ff | apply Chk.go | apply ChkA.go | apply ChkF.go | apply ChkB.go | apply XArr.pim0 | apply XArr.pim1); conv => whnf) | (with_reducible apply XBr.not) | ((with_reducible apply XBr.dec) <;> (intro h; first | (exfalso; omega) | ((try simp only [List.length_map] at h); first | (exfalso; omega) | (conv => whnf)))) | ((with_reducible first | apply XBr.beq | apply XBr.bne) <;> (intro h; first | (exfalso; omega) | (conv => whnf))) | ((with_reducible refine XInt.i64 (by omega) (by omega) ?_); conv => whnf) | ((with_reducible refine XHold.mk ?_ ?_); (first | omega | rfl | decide | exact ⟨rfl, by decide, rfl⟩ | exact wideI _ | exact widePr _ | exact wideSk _ | (unfold Room; constructor <;> ((try simp) <;> omega)) | exact ⟨rfl, by simp only [List.length_map], by unfold Room; constructor <;> ((try simp) <;> omega)⟩ | exact ⟨by omega, by omega, by unfold Room; constructor <;> ((try simp) <;> omega)⟩); conv => whnf) | ((first | ((with_reducible refine XIx.nat ?_ ?_ ?_); omega; (intro _; rfl)) | ((with_reducible refine XIx.map ?_ ?_ ?_ ?_); omega; omega; (intro _; rfl))); conv => whnf) | (with_reducible apply XAnd.mk) | (exact XSame.mk rfl rfl) | (exact XSame.mk (by first | rfl | (simp only [List.map_append, List.length_append, List.length_map]; done) | (simp only [List.map_append, List.length_append, List.length_map]; rfl)) (by first | rfl | (simp only [List.map_append]; done) | (simp only [List.map_append]; rfl))) | (with_reducible exact trivial) | ((first | (with_reducible refine xdrop_app (by rw [List.length_map]; omega) ?_) | (with_reducible refine XDrop.desk (by assumption) ?_) | (with_reducible first | refine XArr.ints (by omega) (by omega) (by omega) ?_ | refine XArr.intsA (by omega) (by omega) (by omega) ?_) | ((with_reducible first | refine XArr.nats ?_ ?_ ?_ | refine XArr.natsA ?_ ?_ ?_ | refine XArr.ptr ?_ ?_ ?_); omega; omega)); conv => whnf) | ((with_reducible apply XBr.mk') <;> (intro h; conv => whnf))
  · have := pow9 h
    refine XInt.eq (y := ((2 ^ d.l.sacks.length : Nat) : Int)) (by rw [List.length_map]; exact shl_nat (by omega)) (by omega) (by omega) ?_
    conv => whnf
    repeat' first | ((with_reducible first | apply XBr.tt | apply XBr.ff | apply Chk.go | apply ChkA.go | apply ChkF.go | apply ChkB.go | apply XArr.pim0 | apply XArr.pim1); conv => whnf) | (with_reducible apply XBr.not) | ((with_reducible apply XBr.dec) <;> (intro h; first | (exfalso; omega) | ((try simp only [List.length_map] at h); first | (exfalso; omega) | (conv => whnf)))) | ((with_reducible first | apply XBr.beq | apply XBr.bne) <;> (intro h; first | (exfalso; omega) | (conv => whnf))) | ((with_reducible refine XInt.i64 (by omega) (by omega) ?_); conv => whnf) | ((with_reducible refine XHold.mk ?_ ?_); (first | omega | rfl | decide | exact ⟨rfl, by decide, rfl⟩ | exact wideI _ | exact widePr _ | exact wideSk _ | (unfold Room; constructor <;> ((try simp) <;> omega)) | exact ⟨rfl, by simp only [List.length_map], by unfold Room; constructor <;> ((try simp) <;> omega)⟩ | exact ⟨by omega, by omega, by unfold Room; constructor <;> ((try simp) <;> omega)⟩); conv => whnf) | ((first | ((with_reducible refine XIx.nat ?_ ?_ ?_); omega; (intro _; rfl)) | ((with_reducible refine XIx.map ?_ ?_ ?_ ?_); omega; omega; (intro _; rfl))); conv => whnf) | (with_reducible apply XAnd.mk) | (exact XSame.mk rfl rfl) | (exact XSame.mk (by first | rfl | (simp only [List.map_append, List.length_append, List.length_map]; done) | (simp only [List.map_append, List.length_append, List.length_map]; rfl)) (by first | rfl | (simp only [List.map_append]; done) | (simp only [List.map_append]; rfl))) | (with_reducible exact trivial) | ((first | (with_reducible refine xdrop_app (by rw [List.length_map]; omega) ?_) | (with_reducible refine XDrop.desk (by assumption) ?_) | (with_reducible first | refine XArr.ints (by omega) (by omega) (by omega) ?_ | refine XArr.intsA (by omega) (by omega) (by omega) ?_) | ((with_reducible first | refine XArr.nats ?_ ?_ ?_ | refine XArr.natsA ?_ ?_ ?_ | refine XArr.ptr ?_ ?_ ?_); omega; omega)); conv => whnf) | ((with_reducible apply XBr.mk') <;> (intro h; conv => whnf))
    refine XOut.int ?_
    omega
theorem carts_c (d : Dk) (set : Nat) : Comp Try.prog 80 [.pim (deskC d), .int .i64 set] (.fn 133 [.pim [.int .i64 set], .pim [.pim (deskC d)]]) := by
  refine Comp.body (T := tab) (res := [.tmp 4]) tab_ok [] Try.func80 rfl (by kernel_rfl) Try.ntmps80 rfl (by simp only [List.length_cons, List.length_nil]; decide) (by simp only [lowL, AV.low, lowDk]; rfl) ?_; conv => whnf
  repeat' first | ((with_reducible first | apply XBr.tt | apply XBr.ff | apply Chk.go | apply ChkA.go | apply ChkF.go | apply ChkB.go | apply XArr.pim0 | apply XArr.pim1); conv => whnf) | (with_reducible apply XBr.not) | ((with_reducible apply XBr.dec) <;> (intro h; first | (exfalso; omega) | ((try simp only [List.length_map] at h); first | (exfalso; omega) | (conv => whnf)))) | ((with_reducible first | apply XBr.beq | apply XBr.bne) <;> (intro h; first | (exfalso; omega) | (conv => whnf))) | ((with_reducible refine XInt.i64 (by omega) (by omega) ?_); conv => whnf) | ((with_reducible refine XHold.mk ?_ ?_); (first | omega | rfl | decide | exact ⟨rfl, by decide, rfl⟩ | exact wideI _ | exact widePr _ | exact wideSk _ | (unfold Room; constructor <;> ((try simp) <;> omega)) | exact ⟨rfl, by simp only [List.length_map], by unfold Room; constructor <;> ((try simp) <;> omega)⟩ | exact ⟨by omega, by omega, by unfold Room; constructor <;> ((try simp) <;> omega)⟩); conv => whnf) | ((first | ((with_reducible refine XIx.nat ?_ ?_ ?_); omega; (intro _; rfl)) | ((with_reducible refine XIx.map ?_ ?_ ?_ ?_); omega; omega; (intro _; rfl))); conv => whnf) | (with_reducible apply XAnd.mk) | (exact XSame.mk rfl rfl) | (exact XSame.mk (by first | rfl | (simp only [List.map_append, List.length_append, List.length_map]; done) | (simp only [List.map_append, List.length_append, List.length_map]; rfl)) (by first | rfl | (simp only [List.map_append]; done) | (simp only [List.map_append]; rfl))) | (with_reducible exact trivial) | ((first | (with_reducible refine xdrop_app (by rw [List.length_map]; omega) ?_) | (with_reducible refine XDrop.desk (by assumption) ?_) | (with_reducible first | refine XArr.ints (by omega) (by omega) (by omega) ?_ | refine XArr.intsA (by omega) (by omega) (by omega) ?_) | ((with_reducible first | refine XArr.nats ?_ ?_ ?_ | refine XArr.natsA ?_ ?_ ?_ | refine XArr.ptr ?_ ?_ ?_); omega; omega)); conv => whnf) | ((with_reducible apply XBr.mk') <;> (intro h; conv => whnf))
  exact ⟨Froz.low (by show lowL 0 _ = true; simp only [lowL, AV.low, lowDk]; rfl)⟩
end GA
end

section
namespace GA
open Go Go.RowKit Go.Proofs
set_option pp.deepTerms true
set_option maxRecDepth 8000
set_option linter.unusedVariables false
set_option linter.unusedSimpArgs false

def lowb (s : Nat) : Nat := diff s (s - 1)
theorem low_all : ∀ s : Fin 512, iand .i64 (s.val : Int) (0 - (s.val : Int)) = ((lowb s.val : Nat) : Int) := by decide +kernel
theorem low_int {s : Nat} (h : s < 512) : iand .i64 (s : Int) (0 - (s : Int)) = ((lowb s : Nat) : Int) := low_all ⟨s, h⟩
theorem AYield.mono {P : Program} {i : Nat} {rs : List AV} {H : List Blk} {k k' : AV → List Blk → Prop} (x : AYield P i rs H k) (hk : ∀ r H', k r H' → k' r H') : AYield P i rs H k' :=
  ⟨x.1, fun E h β w b vs s r e => let ⟨f, tmps, assign, body, h1, h2⟩ := x.2 E h β w b vs s r e; ⟨f, tmps, assign, body, h1, h2.mono fun _ _ => Ends.mono hk⟩⟩
def IterOk (P : Program) (i : Nat) (K : List Blk → Prop) : List Nat → List Blk → Prop
  | [], H => K H
  | c :: cs, H => XYield P i [natA c] H fun r H' => (r = .bool true ∧ IterOk P i K cs H') ∨ (r = .bool false ∧ K H')

theorem diff_le (a b : Nat) : diff a b ≤ a := by
  unfold diff
  have h : a ^^^ (a &&& b) = a &&& (a ^^^ b) := by
    apply Nat.eq_of_testBit_eq; intro i; simp only [Nat.testBit_xor, Nat.testBit_and]
    cases a.testBit i <;> cases b.testBit i <;> rfl
  rw [h]; exact Nat.and_le_left
theorem or9 {a b : Nat} (ha : a < 512) (hb : b < 512) : a ||| b < 512 := Nat.or_lt_two_pow (n := 9) ha hb
theorem lowb_le (s : Nat) : lowb s ≤ s := diff_le ..
def cartsF (d : Dk) (set : Nat) : Nat → Nat → List Nat
  | 0, _ => []
  | f + 1, rest => (if rightB d (rest ||| lowb set) then [rest ||| lowb set] else []) ++ (if rest = 0 then [] else cartsF d set f (diff ((rest - 1) &&& set) (lowb set)))
def cartsL (d : Dk) (set : Nat) : List Nat := cartsF d set 512 (diff set (lowb set))

theorem cartsF_succ (d : Dk) (set f rest : Nat) : cartsF d set (f + 1) rest = (if rightB d (rest ||| lowb set) then [rest ||| lowb set] else []) ++ (if rest = 0 then [] else cartsF d set f (diff ((rest - 1) &&& set) (lowb set))) := rfl
theorem carts1_c (d : Dk) (ok : DkFull d) (set i : Nat) (hs : set < 512) (H : List Blk) (K : List Blk → Prop) (hK : IterOk Try.prog i K (cartsL d set) H) :
    XCall Try.prog 133 [.yld i, .pim [.int .i64 set], .pim [.pim (deskC d)]] H fun _ H' => K H' := by
  refine XCall.inl (T := tab) (res := []) tab_ok [] Try.func133 rfl (by kernel_rfl) Try.ntmps133 rfl (by simp only [List.length_append, List.length_cons, List.length_nil]; decide) ?_; conv => whnf
  repeat' first | ((with_reducible first | apply XBr.tt | apply XBr.ff | apply Chk.go | apply ChkA.go | apply ChkF.go | apply ChkB.go | apply XArr.pim0 | apply XArr.pim1); conv => whnf) | (with_reducible apply XBr.not) | ((with_reducible apply XBr.dec) <;> (intro h; first | (exfalso; omega) | ((try simp only [List.length_map] at h); first | (exfalso; omega) | (conv => whnf)))) | ((with_reducible first | apply XBr.beq | apply XBr.bne) <;> (intro h; first | (exfalso; omega) | (conv => whnf))) | ((with_reducible refine XInt.i64 (by omega) (by omega) ?_); conv => whnf) | ((with_reducible refine XHold.mk ?_ ?_); (first | omega | rfl | decide | exact ⟨rfl, by decide, rfl⟩ | exact wideI _ | exact widePr _ | exact wideSk _ | (unfold Room; constructor <;> ((try simp) <;> omega)) | exact ⟨rfl, by simp only [List.length_map], by unfold Room; constructor <;> ((try simp) <;> omega)⟩ | exact ⟨by omega, by omega, by unfold Room; constructor <;> ((try simp) <;> omega)⟩); conv => whnf) | ((first | ((with_reducible refine XIx.nat ?_ ?_ ?_); omega; (intro _; rfl)) | ((with_reducible refine XIx.map ?_ ?_ ?_ ?_); omega; omega; (intro _; rfl))); conv => whnf) | (with_reducible apply XAnd.mk) | (exact XSame.mk rfl rfl) | (exact XSame.mk (by first | rfl | (simp only [List.map_append, List.length_append, List.length_map]; done) | (simp only [List.map_append, List.length_append, List.length_map]; rfl)) (by first | rfl | (simp only [List.map_append]; done) | (simp only [List.map_append]; rfl))) | (with_reducible exact trivial) | ((first | (with_reducible refine xdrop_app (by rw [List.length_map]; omega) ?_) | (with_reducible refine XDrop.desk (by assumption) ?_) | (with_reducible first | refine XArr.ints (by omega) (by omega) (by omega) ?_ | refine XArr.intsA (by omega) (by omega) (by omega) ?_) | ((with_reducible first | refine XArr.nats ?_ ?_ ?_ | refine XArr.natsA ?_ ?_ ?_ | refine XArr.ptr ?_ ?_ ?_); omega; omega)); conv => whnf) | ((with_reducible apply XBr.mk') <;> (intro h; conv => whnf))
  have hl := lowb_le set
  have hd := diff_le set (lowb set)
  have e1 : iand .i64 (set : Int) (0 - (set : Int)) = ((lowb set : Nat) : Int) := low_int hs
  have e2 : iandn .i64 (set : Int) ((lowb set : Nat) : Int) = ((diff set (lowb set) : Nat) : Int) := iandn_nat (by omega) (by omega)
  refine Walk.loop tab_ok [] (fun g : Nat × Nat × List Blk => g.1 < 512 ∧ g.1 < g.2.1 ∧ IterOk Try.prog i K (cartsF d set g.2.1 g.1) g.2.2) (fun g => [(0, .yld i), (1, .pim [.int .i64 set]), (2, .pim [.pim (deskC d)]), (4, .int .i64 (lowb set : Nat)), (5, .int .i64 g.1)]) (fun g => g.2.2) (fun g => g.1) (diff set (lowb set), 512, H) ⟨by dsimp only; omega, by dsimp only; omega, hK⟩ rfl ⟨rfl, rfl, rfl, congrArg (fun n => some (AV.int .i64 n)) e1, ?_, trivial⟩ ?_
  · show some (AV.int .i64 (iandn .i64 (set : Int) (iand .i64 (set : Int) (0 - (set : Int))))) = _
    rw [e1, e2]
  rintro ⟨rest, f, H'⟩ ⟨h1, h2, h3⟩
  dsimp only at h1 h2 h3 ⊢
  conv => whnf
  have e3 : ior .i64 (rest : Int) ((lowb set : Nat) : Int) = ((rest ||| lowb set : Nat) : Int) := ior_nat (by omega) (by omega)
  have h4 : rest ||| lowb set < 512 := or9 h1 (by omega)
  have hf : f = (f - 1) + 1 := by omega
  rw [hf] at h3
  have hn := diff_le ((rest - 1) &&& set) (lowb set)
  have hn2 : (rest - 1) &&& set ≤ rest - 1 := Nat.and_le_left
  have e5 : 0 < rest → iandn .i64 (iand .i64 ((rest : Int) - 1) (set : Int)) ((lowb set : Nat) : Int) = ((diff ((rest - 1) &&& set) (lowb set) : Nat) : Int) := by
    intro h0
    have : (rest : Int) - 1 = ((rest - 1 : Nat) : Int) := by omega
    rw [this, iand_nat (by omega) (by omega), iandn_nat (by omega) (by omega)]
  rw [e3]
  refine XCall.ret (right_c d ok _ h4) ?_
  conv => whnf
  repeat' first | ((with_reducible first | apply XBr.tt | apply XBr.ff | apply Chk.go | apply ChkA.go | apply ChkF.go | apply ChkB.go | apply XArr.pim0 | apply XArr.pim1); conv => whnf) | (with_reducible apply XBr.not) | ((with_reducible apply XBr.dec) <;> (intro h; first | (exfalso; omega) | ((try simp only [List.length_map] at h); first | (exfalso; omega) | (conv => whnf)))) | ((with_reducible first | apply XBr.beq | apply XBr.bne) <;> (intro h; first | (exfalso; omega) | (conv => whnf))) | ((with_reducible refine XInt.i64 (by omega) (by omega) ?_); conv => whnf) | ((with_reducible refine XHold.mk ?_ ?_); (first | omega | rfl | decide | exact ⟨rfl, by decide, rfl⟩ | exact wideI _ | exact widePr _ | exact wideSk _ | (unfold Room; constructor <;> ((try simp) <;> omega)) | exact ⟨rfl, by simp only [List.length_map], by unfold Room; constructor <;> ((try simp) <;> omega)⟩ | exact ⟨by omega, by omega, by unfold Room; constructor <;> ((try simp) <;> omega)⟩); conv => whnf) | ((first | ((with_reducible refine XIx.nat ?_ ?_ ?_); omega; (intro _; rfl)) | ((with_reducible refine XIx.map ?_ ?_ ?_ ?_); omega; omega; (intro _; rfl))); conv => whnf) | (with_reducible apply XAnd.mk) | (exact XSame.mk rfl rfl) | (exact XSame.mk (by first | rfl | (simp only [List.map_append, List.length_append, List.length_map]; done) | (simp only [List.map_append, List.length_append, List.length_map]; rfl)) (by first | rfl | (simp only [List.map_append]; done) | (simp only [List.map_append]; rfl))) | (with_reducible exact trivial) | ((first | (with_reducible refine xdrop_app (by rw [List.length_map]; omega) ?_) | (with_reducible refine XDrop.desk (by assumption) ?_) | (with_reducible first | refine XArr.ints (by omega) (by omega) (by omega) ?_ | refine XArr.intsA (by omega) (by omega) (by omega) ?_) | ((with_reducible first | refine XArr.nats ?_ ?_ ?_ | refine XArr.natsA ?_ ?_ ?_ | refine XArr.ptr ?_ ?_ ?_); omega; omega)); conv => whnf) | ((with_reducible apply XBr.mk') <;> (intro h; conv => whnf))
  · rw [e3]
    have hc : cartsF d set (f - 1 + 1) rest = (rest ||| lowb set) :: (if rest = 0 then [] else cartsF d set (f - 1) (diff ((rest - 1) &&& set) (lowb set))) := by
      rw [cartsF_succ, if_pos h]; rfl
    rw [hc] at h3
    refine ⟨AYield.mono h3.o ?_⟩
    rintro r H'' (⟨rfl, h5⟩ | ⟨rfl, h5⟩)
    · conv => whnf
      repeat' first | ((with_reducible first | apply XBr.tt | apply XBr.ff | apply Chk.go | apply ChkA.go | apply ChkF.go | apply ChkB.go | apply XArr.pim0 | apply XArr.pim1); conv => whnf) | (with_reducible apply XBr.not) | ((with_reducible apply XBr.dec) <;> (intro h; first | (exfalso; omega) | ((try simp only [List.length_map] at h); first | (exfalso; omega) | (conv => whnf)))) | ((with_reducible first | apply XBr.beq | apply XBr.bne) <;> (intro h; first | (exfalso; omega) | (conv => whnf))) | ((with_reducible refine XInt.i64 (by omega) (by omega) ?_); conv => whnf) | ((with_reducible refine XHold.mk ?_ ?_); (first | omega | rfl | decide | exact ⟨rfl, by decide, rfl⟩ | exact wideI _ | exact widePr _ | exact wideSk _ | (unfold Room; constructor <;> ((try simp) <;> omega)) | exact ⟨rfl, by simp only [List.length_map], by unfold Room; constructor <;> ((try simp) <;> omega)⟩ | exact ⟨by omega, by omega, by unfold Room; constructor <;> ((try simp) <;> omega)⟩); conv => whnf) | ((first | ((with_reducible refine XIx.nat ?_ ?_ ?_); omega; (intro _; rfl)) | ((with_reducible refine XIx.map ?_ ?_ ?_ ?_); omega; omega; (intro _; rfl))); conv => whnf) | (with_reducible apply XAnd.mk) | (exact XSame.mk rfl rfl) | (exact XSame.mk (by first | rfl | (simp only [List.map_append, List.length_append, List.length_map]; done) | (simp only [List.map_append, List.length_append, List.length_map]; rfl)) (by first | rfl | (simp only [List.map_append]; done) | (simp only [List.map_append]; rfl))) | (with_reducible exact trivial) | ((first | (with_reducible refine xdrop_app (by rw [List.length_map]; omega) ?_) | (with_reducible refine XDrop.desk (by assumption) ?_) | (with_reducible first | refine XArr.ints (by omega) (by omega) (by omega) ?_ | refine XArr.intsA (by omega) (by omega) (by omega) ?_) | ((with_reducible first | refine XArr.nats ?_ ?_ ?_ | refine XArr.natsA ?_ ?_ ?_ | refine XArr.ptr ?_ ?_ ?_); omega; omega)); conv => whnf) | ((with_reducible apply XBr.mk') <;> (intro h; conv => whnf))
      · rename_i h0
        rw [if_pos (by omega)] at h5; exact h5
      · rename_i h0
        rw [if_neg (by omega)] at h5
        refine XAgain.go (diff ((rest - 1) &&& set) (lowb set), f - 1, H'') ⟨by dsimp only; omega, by dsimp only; omega, h5⟩ (by dsimp only; omega) rfl ⟨rfl, rfl, rfl, rfl, ?_, trivial⟩
        exact congrArg (fun n => some (AV.int .i64 n)) (e5 (by omega))
    · conv => whnf
      repeat' first | ((with_reducible first | apply XBr.tt | apply XBr.ff | apply Chk.go | apply ChkA.go | apply ChkF.go | apply ChkB.go | apply XArr.pim0 | apply XArr.pim1); conv => whnf) | (with_reducible apply XBr.not) | ((with_reducible apply XBr.dec) <;> (intro h; first | (exfalso; omega) | ((try simp only [List.length_map] at h); first | (exfalso; omega) | (conv => whnf)))) | ((with_reducible first | apply XBr.beq | apply XBr.bne) <;> (intro h; first | (exfalso; omega) | (conv => whnf))) | ((with_reducible refine XInt.i64 (by omega) (by omega) ?_); conv => whnf) | ((with_reducible refine XHold.mk ?_ ?_); (first | omega | rfl | decide | exact ⟨rfl, by decide, rfl⟩ | exact wideI _ | exact widePr _ | exact wideSk _ | (unfold Room; constructor <;> ((try simp) <;> omega)) | exact ⟨rfl, by simp only [List.length_map], by unfold Room; constructor <;> ((try simp) <;> omega)⟩ | exact ⟨by omega, by omega, by unfold Room; constructor <;> ((try simp) <;> omega)⟩); conv => whnf) | ((first | ((with_reducible refine XIx.nat ?_ ?_ ?_); omega; (intro _; rfl)) | ((with_reducible refine XIx.map ?_ ?_ ?_ ?_); omega; omega; (intro _; rfl))); conv => whnf) | (with_reducible apply XAnd.mk) | (exact XSame.mk rfl rfl) | (exact XSame.mk (by first | rfl | (simp only [List.map_append, List.length_append, List.length_map]; done) | (simp only [List.map_append, List.length_append, List.length_map]; rfl)) (by first | rfl | (simp only [List.map_append]; done) | (simp only [List.map_append]; rfl))) | (with_reducible exact trivial) | ((first | (with_reducible refine xdrop_app (by rw [List.length_map]; omega) ?_) | (with_reducible refine XDrop.desk (by assumption) ?_) | (with_reducible first | refine XArr.ints (by omega) (by omega) (by omega) ?_ | refine XArr.intsA (by omega) (by omega) (by omega) ?_) | ((with_reducible first | refine XArr.nats ?_ ?_ ?_ | refine XArr.natsA ?_ ?_ ?_ | refine XArr.ptr ?_ ?_ ?_); omega; omega)); conv => whnf) | ((with_reducible apply XBr.mk') <;> (intro h; conv => whnf))
      exact h5
  · have hc : cartsF d set (f - 1 + 1) rest = (if rest = 0 then [] else cartsF d set (f - 1) (diff ((rest - 1) &&& set) (lowb set))) := by
      rw [cartsF_succ, if_neg (by simp [*])]; rfl
    rw [hc] at h3
    rename_i h0
    rw [if_pos (by omega)] at h3; exact h3
  · have hc : cartsF d set (f - 1 + 1) rest = (if rest = 0 then [] else cartsF d set (f - 1) (diff ((rest - 1) &&& set) (lowb set))) := by
      rw [cartsF_succ, if_neg (by simp [*])]; rfl
    rw [hc] at h3
    rename_i h0
    rw [if_neg (by omega)] at h3
    refine XAgain.go (diff ((rest - 1) &&& set) (lowb set), f - 1, H') ⟨by dsimp only; omega, by dsimp only; omega, h3⟩ (by dsimp only; omega) rfl ⟨rfl, rfl, rfl, rfl, ?_, trivial⟩
    exact congrArg (fun n => some (AV.int .i64 n)) (e5 (by omega))
end GA
end

section
namespace GA
open Go Go.RowKit
set_option linter.unusedVariables false

mutual
def AV.ren (ρ : Nat → Nat) : AV → AV
  | .ptr i o => .ptr (ρ i) o
  | .gr i n => .gr (ρ i) n
  | .gp i n e o => .gp (ρ i) n e o
  | .mp i => .mp (ρ i)
  | .yld i => .yld (ρ i)
  | .pim cs => .pim (renL ρ cs)
  | .sl nl cs => .sl nl (renL ρ cs)
  | .fn f cs => .fn f (renL ρ cs)
  | .agg cs => .agg (renL ρ cs)
  | .tup cs => .tup (renL ρ cs)
  | .bool b => .bool b
  | .int k n => .int k n
  | .nilp => .nilp
  | .se => .se
  | .nilm => .nilm
  | .nilf => .nilf
def renL (ρ : Nat → Nat) : List AV → List AV
  | [] => []
  | x :: l => x.ren ρ :: renL ρ l
end
theorem renL_eq (ρ : Nat → Nat) : ∀ l : List AV, renL ρ l = l.map (AV.ren ρ)
  | [] => rfl
  | x :: l => by rw [renL, renL_eq ρ l]; rfl
def Blk.ren (ρ : Nat → Nat) : Blk → Blk
  | .dead => .dead
  | .free => .free
  | .cells cs => .cells (renL ρ cs)
  | .grow t nl els => .grow t nl (renL ρ els)
  | .map es => .map (es.map fun p => (p.1, p.2.ren ρ))
  | .raw o => .raw o
  | .lp st pend f tm ps x y n => .lp st pend f (tm.map fun p => (p.1, p.2.ren ρ)) ps x y n

theorem AV.ren_one (ρ : Nat → Nat) (a : AV) : (a.ren ρ).one = a.one := by cases a <;> rfl
theorem AV.ren_cells (ρ : Nat → Nat) (a : AV) : (a.ren ρ).cells = a.cells.map (AV.ren ρ) := by
  cases a <;> first | rfl | (simp only [AV.ren, AV.cells, renL_eq]; rfl) | simp only [AV.ren, AV.cells, renL_eq]
theorem flat_ren (ρ : Nat → Nat) (l : List AV) : flat (l.map (AV.ren ρ)) = (flat l).map (AV.ren ρ) := by
  induction l with
  | nil => rfl
  | cons x l ih =>
    simp only [flat, List.map_cons, List.flatMap_cons, List.map_append] at ih ⊢
    rw [ih, AV.ren_cells]
theorem Blk.ren_free (ρ : Nat → Nat) (x : Blk) : (x.ren ρ).isFree = x.isFree := by cases x <;> rfl
theorem Blk.ren_rec (ρ : Nat → Nat) (x : Blk) : (x.ren ρ).isRec = x.isRec := by cases x <;> rfl

theorem AV.ren_low {ρ : Nat → Nat} {n : Nat} (h : ∀ i, i < n → ρ i = i) : ∀ {a : AV}, a.low n = true → a.ren ρ = a := by
  intro a
  refine AV.rec (motive_1 := fun a => a.low n = true → a.ren ρ = a) (motive_2 := fun l => lowL n l = true → renL ρ l = l) ?_ ?_ ?_ ?_ ?_ ?_ ?_ ?_ ?_ ?_ ?_ ?_ ?_ ?_ ?_ ?_ ?_ ?_ a
  all_goals try (intros; rfl)
  · intro i o hl; simp only [AV.low, decide_eq_true_eq] at hl; rw [AV.ren, h i hl]
  · intro cs ih hl; rw [AV.ren, ih hl]
  · intro nl cs ih hl; rw [AV.ren, ih hl]
  · intro i o hl; simp only [AV.low, decide_eq_true_eq] at hl; rw [AV.ren, h i hl]
  · intro i o e f hl; simp only [AV.low, decide_eq_true_eq] at hl; rw [AV.ren, h i hl]
  · intro i hl; simp only [AV.low, decide_eq_true_eq] at hl; rw [AV.ren, h i hl]
  · intro f cs ih hl; rw [AV.ren, ih hl]
  · intro i hl; simp only [AV.low, decide_eq_true_eq] at hl; rw [AV.ren, h i hl]
  · intro cs ih hl; rw [AV.ren, ih hl]
  · intro cs ih hl; rw [AV.ren, ih hl]
  · intro x l ih1 ih2 hl; simp only [lowL, Bool.and_eq_true] at hl; rw [renL, ih1 hl.1, ih2 hl.2]
theorem renL_low {ρ : Nat → Nat} {n : Nat} (h : ∀ i, i < n → ρ i = i) {l : List AV} (hl : lowL n l = true) : renL ρ l = l := by
  have := AV.ren_low h (a := .agg l) hl
  simpa [AV.ren] using this
theorem AV.ren_low0 {ρ : Nat → Nat} {a : AV} (hl : a.low 0 = true) : a.ren ρ = a := AV.ren_low (n := 0) (fun i hi => by omega) hl
theorem renL_low0 {ρ : Nat → Nat} {l : List AV} (hl : lowL 0 l = true) : renL ρ l = l := renL_low (n := 0) (fun i hi => by omega) hl

structure Ren (ρ : Nat → Nat) (β1 : Nat → Value) (H1 : List Blk) (β : Nat → Value) (H : List Blk) : Prop where
  m : ∀ (i : Nat) x1, H1[i]? = some x1 → H[ρ i]? = some (x1.ren ρ)
  b : ∀ i, i < H1.length → β (ρ i) = β1 i

section
variable {P : Program} {E : Env} {h : Nat → Option Obj} {β β1 : Nat → Value} {H H1 : List Blk} {w : World} {ρ : Nat → Nat}

theorem Ren.live (R : Ren ρ β1 H1 β H) {i : Nat} (l : live H1 i) : live H (ρ i) := let ⟨x, h1, h2⟩ := l; ⟨x.ren ρ, R.m i x h1, by rw [Blk.ren_free]; exact h2⟩
theorem Ren.unlive (R : Ren ρ β1 H1 β H) {i : Nat} (l : GA.live H (ρ i)) (hi : i < H1.length) : GA.live H1 i := by
  obtain ⟨x, h1, h2⟩ := l
  have h3 := R.m i _ (List.getElem?_eq_getElem hi)
  rw [h3] at h1; cases h1
  exact ⟨_, List.getElem?_eq_getElem hi, by rw [Blk.ren_free] at h2; exact h2⟩

theorem Ren.rep (R : Ren ρ β1 H1 β H) {a : AV} {v : Value} (x : Rep P h β1 H1 a v) : Rep P h β H (a.ren ρ) v := by
  induction x with
  | bool b => exact .bool b
  | int k n => exact .int k n
  | nilp => exact .nilp
  | @ptr i o b hi hb =>
    refine .ptr (R.live hi) fun cs e => ?_
    obtain ⟨x, hx, hf⟩ := hi
    rw [R.m i x hx] at e; rw [R.b i (List.getElem?_eq_some_iff.1 hx).1]
    cases x <;> simp only [Blk.ren, Option.some.injEq, reduceCtorEq] at e
    exact hb _ hx
  | pim us hone hb hc _ ih =>
    rw [AV.ren, renL_eq]
    refine .pim us (fun x hx => ?_) hb (fun j x e => ?_) (fun j x e => ?_)
    · obtain ⟨y, hy, rfl⟩ := List.mem_map.1 hx; rw [AV.ren_one]; exact hone y hy
    · rw [List.getElem?_map] at e; cases hq : ‹List AV›[j]? with | none => simp [hq] at e | some y => exact hc j y hq
    · rw [List.getElem?_map] at e
      cases hq : ‹List AV›[j]? with
      | none => simp [hq] at e
      | some y => simp only [hq, Option.map_some, Option.some.injEq] at e; subst e; exact ih j y hq
  | slnil => exact .slnil
  | slemp => exact .slemp
  | @sl b off cap c t fz els w n us hn hne hb hw hw0 hone hcap hc _ ih =>
    rw [AV.ren, renL_eq]
    refine .sl (w := w) us (by rw [List.length_map]; exact hn) (by simpa using hne) hb (fun e he => ?_) hw0 (fun x hx => ?_) (by rw [List.length_map]; exact hcap) (fun j x e => ?_) (fun j x e => ?_)
    · obtain ⟨y, hy, rfl⟩ := List.mem_map.1 he; rw [AV.ren_cells, List.length_map]; exact hw y hy
    · rw [flat_ren] at hx; obtain ⟨y, hy, rfl⟩ := List.mem_map.1 hx; rw [AV.ren_one]; exact hone y hy
    · rw [flat_ren, List.getElem?_map] at e; cases hq : (flat els)[j]? with | none => simp [hq] at e | some y => exact hc j y hq
    · rw [flat_ren, List.getElem?_map] at e
      cases hq : (flat els)[j]? with
      | none => simp [hq] at e
      | some y => simp only [hq, Option.map_some, Option.some.injEq] at e; subst e; exact ih j y hq
  | se => exact .se
  | @gr i n v ho hi hv =>
    refine .gr ho (R.live hi) fun t nl els e => ?_
    obtain ⟨x, hx, hf⟩ := hi
    rw [R.m i x hx] at e; rw [R.b i (List.getElem?_eq_some_iff.1 hx).1]
    cases x <;> simp only [Blk.ren, Option.some.injEq, Blk.grow.injEq, reduceCtorEq] at e
    obtain ⟨rfl, rfl, rfl⟩ := e
    rw [renL_eq, List.length_map]; exact hv _ _ _ hx
  | @gp i n e o b q hi hv =>
    refine .gp (R.live hi) fun t nl els e => ?_
    obtain ⟨x, hx, hf⟩ := hi
    rw [R.m i x hx] at e; rw [R.b i (List.getElem?_eq_some_iff.1 hx).1]
    cases x <;> simp only [Blk.ren, Option.some.injEq, Blk.grow.injEq, reduceCtorEq] at e
    obtain ⟨rfl, rfl, rfl⟩ := e
    rw [renL_eq, List.length_map]; exact hv _ _ _ hx
  | nilm => exact .nilm
  | @mp i r hi hb =>
    refine .mp (R.live hi) fun es e => ?_
    obtain ⟨x, hx, hf⟩ := hi
    rw [R.m i x hx] at e; rw [R.b i (List.getElem?_eq_some_iff.1 hx).1]
    cases x <;> simp only [Blk.ren, Option.some.injEq, reduceCtorEq] at e
    exact hb _ hx
  | nilf => exact .nilf
  | @yld i b hi hb =>
    refine .yld (R.live hi) fun y e hy => ?_
    obtain ⟨x, hx, hf⟩ := hi
    rw [R.m i x hx] at e; rw [R.b i (List.getElem?_eq_some_iff.1 hx).1]
    cases e
    rw [Blk.ren_rec] at hy
    exact hb _ hx hy
  | @fn f caps vs us hs hc _ ih =>
    rw [AV.ren, renL_eq]
    refine .fn us (by rw [List.length_map]; exact hs) (fun j x e => ?_) (fun j x e => ?_)
    · rw [List.getElem?_map] at e; cases hq : caps[j]? with | none => simp [hq] at e | some y => exact hc j y hq
    · rw [List.getElem?_map] at e
      cases hq : caps[j]? with
      | none => simp [hq] at e
      | some y => simp only [hq, Option.map_some, Option.some.injEq] at e; subst e; exact ih j y hq
  | @agg caps vs us hs hone hc _ ih =>
    rw [AV.ren, renL_eq]
    refine .agg us (by rw [List.length_map]; exact hs) (fun x hx => ?_) (fun j x e => ?_) (fun j x e => ?_)
    · obtain ⟨y, hy, rfl⟩ := List.mem_map.1 hx; rw [AV.ren_one]; exact hone y hy
    · rw [List.getElem?_map] at e; cases hq : caps[j]? with | none => simp [hq] at e | some y => exact hc j y hq
    · rw [List.getElem?_map] at e
      cases hq : caps[j]? with
      | none => simp [hq] at e
      | some y => simp only [hq, Option.map_some, Option.some.injEq] at e; subst e; exact ih j y hq
  | @tup caps vs us hs hc _ ih =>
    rw [AV.ren, renL_eq]
    refine .tup us (by rw [List.length_map]; exact hs) (fun j x e => ?_) (fun j x e => ?_)
    · rw [List.getElem?_map] at e; cases hq : caps[j]? with | none => simp [hq] at e | some y => exact hc j y hq
    · rw [List.getElem?_map] at e
      cases hq : caps[j]? with
      | none => simp [hq] at e
      | some y => simp only [hq, Option.map_some, Option.some.injEq] at e; subst e; exact ih j y hq

theorem lowL_get {n : Nat} {l : List AV} (hl : lowL n l = true) {j : Nat} {x : AV} (e : l[j]? = some x) : x.low n = true := lowL_iff.1 hl x (List.mem_of_getElem? e)
theorem map_get {l : List AV} {j : Nat} {x : AV} (e : l[j]? = some x) : (l.map (AV.ren ρ))[j]? = some (x.ren ρ) := by rw [List.getElem?_map, e]; rfl

theorem Ren.unrep (R : Ren ρ β1 H1 β H) {r : AV} {v : Value} (x : Rep P h β H r v) : ∀ {a : AV}, a.ren ρ = r → a.low H1.length = true → Rep P h β1 H1 a v := by
  induction x with
  | bool b => intro a e hl; cases a <;> simp only [AV.ren, AV.bool.injEq, reduceCtorEq] at e; subst e; exact .bool _
  | int k n => intro a e hl; cases a <;> simp only [AV.ren, AV.int.injEq, reduceCtorEq] at e; obtain ⟨rfl, rfl⟩ := e; exact .int _ _
  | nilp => intro a e hl; cases a <;> simp only [AV.ren, reduceCtorEq] at e; exact .nilp
  | @ptr i o b hi hb =>
    intro a e hl; cases a <;> simp only [AV.ren, AV.ptr.injEq, reduceCtorEq] at e
    rename_i i0 o0
    obtain ⟨rfl, rfl⟩ := e
    simp only [AV.low, decide_eq_true_eq] at hl
    refine .ptr (R.unlive hi hl) fun cs e => ?_
    rw [← R.b i0 hl]; exact hb _ (R.m _ _ e)
  | @pim b off c t fz cs us hone hb hc _ ih =>
    intro a e hl; cases a <;> simp only [AV.ren, AV.pim.injEq, reduceCtorEq] at e
    rename_i cs0
    rw [renL_eq] at e; subst e
    refine .pim us (fun x hx => ?_) hb (fun j x e => ?_) (fun j x e => ?_)
    · rw [← AV.ren_one ρ]; exact hone _ (List.mem_map.2 ⟨x, hx, rfl⟩)
    · exact hc j _ (map_get e)
    · exact ih j _ (map_get e) rfl (lowL_get hl e)
  | slnil => intro a e hl; cases a <;> simp only [AV.ren, AV.sl.injEq, reduceCtorEq] at e; obtain ⟨rfl, e⟩ := e; rw [renL_eq, List.map_eq_nil_iff] at e; subst e; exact .slnil
  | slemp => intro a e hl; cases a <;> simp only [AV.ren, AV.sl.injEq, reduceCtorEq] at e; obtain ⟨rfl, e⟩ := e; rw [renL_eq, List.map_eq_nil_iff] at e; subst e; exact .slemp
  | @sl b off cap c t fz els w n us hn hne hb hw hw0 hone hcap hc _ ih =>
    intro a e hl; cases a <;> simp only [AV.ren, AV.sl.injEq, reduceCtorEq] at e
    rename_i nl cs0
    obtain ⟨rfl, e⟩ := e
    rw [renL_eq] at e; subst e
    rw [List.length_map] at hn hcap
    rw [flat_ren] at hone hc
    refine .sl (w := w) us hn (by simpa using hne) hb (fun e he => ?_) hw0 (fun x hx => ?_) hcap (fun j x e => hc j _ (map_get e)) (fun j x e => ?_)
    · have := hw _ (List.mem_map.2 ⟨e, he, rfl⟩); rwa [AV.ren_cells, List.length_map] at this
    · rw [← AV.ren_one ρ]; exact hone _ (List.mem_map.2 ⟨x, hx, rfl⟩)
    · exact ih j _ (by rw [flat_ren]; exact map_get e) rfl (low_flat.1 hl x (List.mem_of_getElem? e))
  | se => intro a e hl; cases a <;> simp only [AV.ren, reduceCtorEq] at e; exact .se
  | @gr i n v ho hi hv =>
    intro a e hl; cases a <;> simp only [AV.ren, AV.gr.injEq, reduceCtorEq] at e
    rename_i i0 o0
    obtain ⟨rfl, rfl⟩ := e
    simp only [AV.low, decide_eq_true_eq] at hl
    refine .gr ho (R.unlive hi hl) fun t nl els e => ?_
    rw [← R.b i0 hl]; have := hv _ _ _ (R.m _ _ e); rwa [renL_eq, List.length_map] at this
  | @gp i n e o b q hi hv =>
    intro a e hl; cases a <;> simp only [AV.ren, AV.gp.injEq, reduceCtorEq] at e
    rename_i i0 n0 e0 o0
    obtain ⟨rfl, rfl, rfl, rfl⟩ := e
    simp only [AV.low, decide_eq_true_eq] at hl
    refine .gp (R.unlive hi hl) fun t nl els e => ?_
    rw [← R.b i0 hl]; have := hv _ _ _ (R.m _ _ e); rwa [renL_eq, List.length_map] at this
  | nilm => intro a e hl; cases a <;> simp only [AV.ren, reduceCtorEq] at e; exact .nilm
  | @mp i r hi hb =>
    intro a e hl; cases a <;> simp only [AV.ren, AV.mp.injEq, reduceCtorEq] at e
    subst e
    simp only [AV.low, decide_eq_true_eq] at hl
    refine .mp (R.unlive hi hl) fun cs e => ?_
    rw [← R.b _ hl]; exact hb _ (R.m _ _ e)
  | nilf => intro a e hl; cases a <;> simp only [AV.ren, reduceCtorEq] at e; exact .nilf
  | @yld i b hi hb =>
    intro a e hl; cases a <;> simp only [AV.ren, AV.yld.injEq, reduceCtorEq] at e
    subst e
    simp only [AV.low, decide_eq_true_eq] at hl
    refine .yld (R.unlive hi hl) fun x e hx => ?_
    rw [← R.b _ hl]; exact hb _ (R.m _ _ e) (by rw [Blk.ren_rec]; exact hx)
  | @fn f caps vs us hs hc _ ih =>
    intro a e hl; cases a <;> simp only [AV.ren, AV.fn.injEq, reduceCtorEq] at e
    rename_i f0 cs0
    obtain ⟨rfl, e⟩ := e
    rw [renL_eq] at e; subst e
    exact .fn us (by rw [hs, List.length_map]) (fun j x e => hc j _ (map_get e)) (fun j x e => ih j _ (map_get e) rfl (lowL_get hl e))
  | @agg caps vs us hs hone hc _ ih =>
    intro a e hl; cases a <;> simp only [AV.ren, AV.agg.injEq, reduceCtorEq] at e
    rename_i cs0
    rw [renL_eq] at e; subst e
    exact .agg us (by rw [hs, List.length_map]) (fun x hx => by rw [← AV.ren_one ρ]; exact hone _ (List.mem_map.2 ⟨x, hx, rfl⟩)) (fun j x e => hc j _ (map_get e)) (fun j x e => ih j _ (map_get e) rfl (lowL_get hl e))
  | @tup caps vs us hs hc _ ih =>
    intro a e hl; cases a <;> simp only [AV.ren, AV.tup.injEq, reduceCtorEq] at e
    rename_i cs0
    rw [renL_eq] at e; subst e
    exact .tup us (by rw [hs, List.length_map]) (fun j x e => hc j _ (map_get e)) (fun j x e => ih j _ (map_get e) rfl (lowL_get hl e))

theorem Ren.cells (R : Ren ρ β1 H1 β H) {cs : List AV} {c : Array Value} (k : CellsOk P h β1 H1 cs c) : CellsOk P h β H (cs.map (AV.ren ρ)) c := by
  obtain ⟨us, a, b⟩ := k
  refine ⟨us, fun j x e => ?_, fun j x e => ?_⟩ <;> (rw [List.getElem?_map] at e; cases hq : cs[j]? with | none => simp [hq] at e | some y => ?_)
  · exact a j y hq
  · simp only [hq, Option.map_some, Option.some.injEq] at e; subst e; exact R.rep (b j y hq)
theorem Ren.uncells (R : Ren ρ β1 H1 β H) {cs : List AV} {c : Array Value} (hl : lowL H1.length cs = true) (k : CellsOk P h β H (cs.map (AV.ren ρ)) c) : CellsOk P h β1 H1 cs c := by
  obtain ⟨us, a, b⟩ := k
  exact ⟨us, fun j x e => a j _ (map_get e), fun j x e => R.unrep (b j _ (map_get e)) rfl (lowL_get hl e)⟩

theorem Ren.blk (R : Ren ρ β1 H1 β H) {heap : Array Obj} {i : Nat} (hi : i < H1.length) {x : Blk} (k : BlkOk P h β1 H1 heap i x) : BlkOk P h β H heap (ρ i) (x.ren ρ) := by
  have hb := R.b i hi
  cases x with
  | dead => trivial
  | free => trivial
  | cells cs =>
    obtain ⟨b, c, t, h1, h2, h3, h4, h5⟩ := k
    rw [Blk.ren, renL_eq]
    refine ⟨b, c, t, hb.trans h1, h2, by rw [h3, List.length_map], fun x hx => ?_, R.cells h5⟩
    obtain ⟨y, hy, rfl⟩ := List.mem_map.1 hx; rw [AV.ren_one]; exact h4 y hy
  | grow t nl els =>
    rw [Blk.ren, renL_eq]
    rcases k with ⟨h1, h2, h3⟩ | ⟨h1, h2, a, h3⟩ | ⟨h1, b, cap, c, h2, h3, h4, h5, h6, h7, h8, h9, h10, h11⟩
    · exact .inl ⟨h1, by rw [h2]; rfl, hb.trans h3⟩
    · exact .inr (.inl ⟨h1, by rw [h2]; rfl, a, hb.trans h3⟩)
    · refine .inr (.inr ⟨h1, b, cap, c, by rw [hb, h2, List.length_map], h3, h4, by rw [List.length_map]; exact h5, h6, h7, h8, fun e he => ?_, fun x hx => ?_, by rw [flat_ren]; exact R.cells h11⟩)
      · obtain ⟨y, hy, rfl⟩ := List.mem_map.1 he; rw [AV.ren_cells, List.length_map]; exact h9 y hy
      · rw [flat_ren] at hx; obtain ⟨y, hy, rfl⟩ := List.mem_map.1 hx; rw [AV.ren_one]; exact h10 y hy
  | map es =>
    obtain ⟨r, ents, clock, h1, h2, h3, h4, us, h5⟩ := k
    refine ⟨r, ents, clock, hb.trans h1, h2, ?_, by rw [h4, List.length_map], us, fun j q x e => ?_⟩
    · rw [List.map_map]; exact h3
    · rw [List.getElem?_map] at e
      cases hq : es[j]? with
      | none => simp [hq] at e
      | some y =>
        obtain ⟨a, b⟩ := y
        simp only [hq, Option.map_some, Option.some.injEq, Prod.mk.injEq] at e
        obtain ⟨rfl, rfl⟩ := e
        obtain ⟨h6, h7⟩ := h5 j _ _ hq
        exact ⟨R.rep h6, h7⟩
  | raw o => obtain ⟨b, h1, h2⟩ := k; exact ⟨b, hb.trans h1, h2⟩
  | lp st pend f tm ps x y n =>
    obtain ⟨b, dfr, tmps, h1, h2, h3, h4⟩ := k
    refine ⟨b, dfr, tmps, hb.trans h1, h2, h3, fun t r e => ?_⟩
    obtain ⟨⟨t', r'⟩, hm, he⟩ := List.mem_map.1 e
    simp only [Prod.mk.injEq] at he; obtain ⟨rfl, rfl⟩ := he
    obtain ⟨v, h5, h6⟩ := h4 _ _ hm
    exact ⟨v, h5, R.rep h6⟩

theorem Ren.unblk (R : Ren ρ β1 H1 β H) {heap : Array Obj} {i : Nat} (hi : i < H1.length) {x : Blk} (hl : x.low H1.length = true) (k : BlkOk P h β H heap (ρ i) (x.ren ρ)) : BlkOk P h β1 H1 heap i x := by
  have hb := R.b i hi
  cases x with
  | dead => trivial
  | free => trivial
  | cells cs =>
    rw [Blk.ren, renL_eq] at k
    obtain ⟨b, c, t, h1, h2, h3, h4, h5⟩ := k
    exact ⟨b, c, t, hb.symm.trans h1, h2, by rw [h3, List.length_map], fun x hx => by rw [← AV.ren_one ρ]; exact h4 _ (List.mem_map.2 ⟨x, hx, rfl⟩), R.uncells hl h5⟩
  | grow t nl els =>
    rw [Blk.ren, renL_eq] at k
    rcases k with ⟨h1, h2, h3⟩ | ⟨h1, h2, a, h3⟩ | ⟨h1, b, cap, c, h2, h3, h4, h5, h6, h7, h8, h9, h10, h11⟩
    · exact .inl ⟨h1, List.map_eq_nil_iff.1 h2, hb.symm.trans h3⟩
    · exact .inr (.inl ⟨h1, List.map_eq_nil_iff.1 h2, a, hb.symm.trans h3⟩)
    · rw [List.length_map] at h2 h5
      rw [flat_ren] at h10 h11
      refine .inr (.inr ⟨h1, b, cap, c, hb.symm.trans h2, h3, h4, h5, h6, h7, h8, fun e he => ?_, fun x hx => ?_, R.uncells ?_ h11⟩)
      · have := h9 _ (List.mem_map.2 ⟨e, he, rfl⟩); rwa [AV.ren_cells, List.length_map] at this
      · rw [← AV.ren_one ρ]; exact h10 _ (List.mem_map.2 ⟨x, hx, rfl⟩)
      · exact lowL_iff.2 (low_flat.1 hl)
  | map es =>
    obtain ⟨r, ents, clock, h1, h2, h3, h4, us, h5⟩ := k
    refine ⟨r, ents, clock, hb.symm.trans h1, h2, ?_, by rw [h4, List.length_map], us, fun j q x e => ?_⟩
    · rw [List.map_map] at h3; exact h3
    · obtain ⟨h6, h7⟩ := h5 j q (x.ren ρ) (by rw [List.getElem?_map, e]; rfl)
      refine ⟨R.unrep h6 rfl ?_, h7⟩
      exact lowL_iff.1 hl x (List.mem_map.2 ⟨(q, x), List.mem_of_getElem? e, rfl⟩)
  | raw o => obtain ⟨b, h1, h2⟩ := k; exact ⟨b, hb.symm.trans h1, h2⟩
  | lp st pend f tm ps x y n =>
    obtain ⟨b, dfr, tmps, h1, h2, h3, h4⟩ := k
    refine ⟨b, dfr, tmps, hb.symm.trans h1, h2, h3, fun t r e => ?_⟩
    obtain ⟨v, h5, h6⟩ := h4 t (r.ren ρ) (List.mem_map.2 ⟨(t, r), e, rfl⟩)
    exact ⟨v, h5, R.unrep h6 rfl (lowL_iff.1 hl r (List.mem_map.2 ⟨(t, r), e, rfl⟩))⟩

theorem Ren.blkOf (R : Ren ρ β1 H1 β H) {i : Nat} (hi : i < H1.length) : GA.blkOf β H (ρ i) = GA.blkOf β1 H1 i := by
  have h1 := R.m i _ (List.getElem?_eq_getElem hi)
  unfold GA.blkOf
  rw [h1, List.getElem?_eq_getElem hi, R.b i hi]
  generalize H1[i] = x
  cases x <;> rfl
theorem Ren.to {x x' : Blk} {β' β1' : Nat → Value} {i : Nat} (h1 : β (ρ i) = β1 i) (h2 : β' (ρ i) = β1' i) (k : x.to β1 β1' i x') : (x.ren ρ).to β β' (ρ i) (x'.ren ρ) := by
  cases x with
  | dead => simp only [Blk.to] at k; subst k; rfl
  | free => trivial
  | cells cs =>
    rcases k with rfl | ⟨cs', rfl, hb⟩
    · exact .inl rfl
    · exact .inr ⟨_, rfl, by rw [h1, h2]; exact hb⟩
  | grow t nl els =>
    rcases k with rfl | ⟨nl', els', rfl, hl, hb⟩
    · exact .inl rfl
    · exact .inr ⟨_, _, rfl, by simp only [renL_eq, List.length_map]; exact hl, fun e => by rw [h1, h2]; simp only [renL_eq, List.length_map] at e; exact hb e⟩
  | map es =>
    rcases k with rfl | ⟨cs', rfl, hb⟩
    · exact .inl rfl
    · exact .inr ⟨_, rfl, by rw [h1, h2]; exact hb⟩
  | raw o =>
    rcases k with rfl | ⟨cs', rfl, hb⟩
    · exact .inl rfl
    · exact .inr ⟨_, rfl, by rw [h1, h2]; exact hb⟩
  | lp st pend f tm ps x y n =>
    rcases k with rfl | ⟨st', pend', rfl, hb⟩
    · exact .inl rfl
    · exact .inr ⟨_, _, rfl, by rw [h1, h2]; exact hb⟩

theorem Ren.sr (R : Ren ρ β1 H1 β H) (s : SR P E h β H w) (inj : ∀ i j, i < H1.length → j < H1.length → ρ i = ρ j → i = j) (lo : ∀ x ∈ H1, x.low H1.length = true) : SR P E h β1 H1 w := by
  have hlt : ∀ {i x}, GA.blkOf β1 H1 i = some x → i < H1.length := fun e => (blkOf_some e).1
  refine ⟨s.env, s.imm, fun i x e => ?_, fun i j x e1 e2 => ?_, fun i x e => ?_, s.frm, fun i x e => ?_⟩
  · have hi := (List.getElem?_eq_some_iff.1 e).1
    exact R.unblk hi (lo x (List.mem_of_getElem? e)) (s.blk _ _ (R.m i x e))
  · exact inj i j (hlt e1) (hlt e2) (s.own _ _ x (by rw [R.blkOf (hlt e1)]; exact e1) (by rw [R.blkOf (hlt e2)]; exact e2))
  · exact s.fresh (ρ i) x (by rw [R.blkOf (hlt e)]; exact e)
  · exact s.fro (ρ i) x (by rw [R.blkOf (hlt e)]; exact e)

noncomputable def othE (E : Env) (β : Nat → Value) (H : List Blk) (w : World) (im : Nat → Prop) : Env := by
  classical exact ⟨E.b, fun b => if ∃ j, ¬ im j ∧ GA.blkOf β H j = some b then w.heap[b]? else E.fr b, E.en⟩
theorem othE_hit {im : Nat → Prop} {b j : Nat} (hj : ¬ im j) (hb : GA.blkOf β H j = some b) : (othE E β H w im).fr b = w.heap[b]? := by
  simp only [othE]; rw [if_pos ⟨j, hj, hb⟩]
theorem othE_miss {im : Nat → Prop} {b : Nat} (hn : ∀ j, ¬ im j → GA.blkOf β H j ≠ some b) : (othE E β H w im).fr b = E.fr b := by
  simp only [othE]; rw [if_neg (fun ⟨j, h1, h2⟩ => hn j h1 h2)]

theorem Ren.srE (R : Ren ρ β1 H1 β H) (s : SR P E h β H w) (inj : ∀ i j, i < H1.length → j < H1.length → ρ i = ρ j → i = j) (lo : ∀ x ∈ H1, x.low H1.length = true) :
    SR P (othE E β H w fun j => ∃ i, i < H1.length ∧ ρ i = j) h β1 H1 w := by
  have s1 := R.sr s inj lo
  refine ⟨s1.env, s1.imm, s1.blk, s1.own, s1.fresh, fun b o e => ?_, fun i x e => ?_⟩
  · by_cases hh : ∃ j, ¬ (∃ i, i < H1.length ∧ ρ i = j) ∧ GA.blkOf β H j = some b
    · obtain ⟨j, h1, h2⟩ := hh
      rw [othE_hit h1 h2] at e
      exact ⟨e, s.fresh _ _ h2⟩
    · rw [othE_miss (fun j h1 h2 => hh ⟨j, h1, h2⟩)] at e; exact s.frm b o e
  · have hi := (blkOf_some e).1
    have hb := R.blkOf hi
    rw [othE_miss]
    · exact s.fro (ρ i) x (by rw [hb]; exact e)
    · intro j h1 h2
      exact h1 ⟨i, hi, s.own _ _ x (by rw [hb]; exact e) h2⟩

theorem ACall.frame {f : FuncId} {rs1 : List AV} {k1 k : AV → List Blk → Prop} (x : ACall P f rs1 H1 k1)
    (inj : ∀ i j, i < H1.length → j < H1.length → ρ i = ρ j → i = j) (hm : ∀ (i : Nat) x1, H1[i]? = some x1 → H[ρ i]? = some (x1.ren ρ))
    (lo : ∀ x ∈ H1, x.low H1.length = true) (lor : lowL H1.length rs1 = true)
    (hk : ∀ r1 H1', k1 r1 H1' → H1'.length = H1.length ∧ ∃ H', H'.length = H.length ∧ (∀ (i : Nat) x1, H1'[i]? = some x1 → H'[ρ i]? = some (x1.ren ρ)) ∧ (∀ j, (∀ i, i < H1.length → ρ i ≠ j) → H'[j]? = H[j]?) ∧ k (r1.ren ρ) H') :
    ACall P f (rs1.map (AV.ren ρ)) H k := by
  refine ⟨x.1, fun E h β w vs s hr => ?_⟩
  have R : Ren ρ (fun i => β (ρ i)) H1 β H := ⟨hm, fun _ _ => rfl⟩
  have s1 := R.srE s inj lo
  have hr1 : RepL P h (fun i => β (ρ i)) H1 rs1 vs := ⟨by rw [hr.1, List.length_map], fun j r e => by
    obtain ⟨v, h1, h2⟩ := hr.2 j _ (map_get e)
    exact ⟨v, h1, R.unrep h2 rfl (lowL_get lor e)⟩⟩
  refine (x.2 _ h _ w vs s1 hr1).mono ?_
  rintro e w' ⟨r1, H1', h', β1', v, rfl, q, X, s', hv⟩
  obtain ⟨hlen, H', hlen', hm', ho, hk'⟩ := hk r1 H1' q
  classical
  let β' : Nat → Value := fun j => if hj : ∃ i, i < H1.length ∧ ρ i = j then β1' (Classical.choose hj) else β j
  have hβ1 : ∀ i, i < H1.length → β' (ρ i) = β1' i := by
    intro i hi
    have hj : ∃ i', i' < H1.length ∧ ρ i' = ρ i := ⟨i, hi, rfl⟩
    simp only [β', dif_pos hj]
    rw [inj _ _ (Classical.choose_spec hj).1 hi (Classical.choose_spec hj).2]
  have hβ2 : ∀ j, (∀ i, i < H1.length → ρ i ≠ j) → β' j = β j := by
    intro j hj
    have hn : ¬ ∃ i, i < H1.length ∧ ρ i = j := fun ⟨i, h1, h2⟩ => hj i h1 h2
    simp only [β', dif_neg hn]
  have R' : Ren ρ β1' H1' β' H' := ⟨hm', fun i hi => hβ1 i (by omega)⟩
  have im : ∀ j, (∃ i, i < H1.length ∧ ρ i = j) ∨ ∀ i, i < H1.length → ρ i ≠ j := by
    intro j
    by_cases hj : ∃ i, i < H1.length ∧ ρ i = j
    · exact .inl hj
    · exact .inr fun i hi e => hj ⟨i, hi, e⟩
  have X' : Ext h β H h' β' H' := by
    refine ⟨X.imm, by omega, fun j y y' e e' => ?_⟩
    rcases im j with ⟨i, hi, rfl⟩ | hj
    · have h1 : H1[i]? = some H1[i] := List.getElem?_eq_getElem hi
      have h2 : H1'[i]? = some (H1'[i]'(by omega)) := List.getElem?_eq_getElem (by omega)
      rw [hm i _ h1] at e; cases e
      rw [hm' i _ h2] at e'; cases e'
      exact Ren.to (β1 := fun i => β (ρ i)) rfl (hβ1 i hi) (X.to i _ _ h1 h2)
    · rw [ho j hj, e] at e'; cases e'
      have := Blk.to_refl β j y
      cases y with
      | dead => rfl
      | free => trivial
      | cells cs => exact .inr ⟨_, rfl, hβ2 j hj⟩
      | grow t nl els => exact .inr ⟨_, _, rfl, Nat.le_refl _, fun _ => hβ2 j hj⟩
      | map es => exact .inr ⟨_, rfl, hβ2 j hj⟩
      | raw o => exact .inr ⟨_, rfl, hβ2 j hj⟩
      | lp st pend f tm ps x y n => exact .inr ⟨_, _, rfl, hβ2 j hj⟩
  have hb1 : ∀ i, i < H1.length → GA.blkOf β' H' (ρ i) = GA.blkOf β1' H1' i := fun i hi => R'.blkOf (by omega)
  have hb2 : ∀ j, (∀ i, i < H1.length → ρ i ≠ j) → GA.blkOf β' H' j = GA.blkOf β H j := fun j hj => blkOf_congr (hβ2 j hj) (ho j hj)
  have hsome : ∀ j b, GA.blkOf β H j = some b → ∃ o, w.heap[b]? = some o := fun j b e => ⟨_, Array.getElem?_eq_getElem (s.lt e)⟩
  have hfr : ∀ j b o, (∀ i, i < H1.length → ρ i ≠ j) → GA.blkOf β H j = some b → w.heap[b]? = some o → w'.heap[b]? = some o ∧ h' b = none := by
    intro j b o hj e eo
    refine s'.frm b o ?_
    rw [othE_hit (j := j) (fun ⟨i, h1, h2⟩ => hj i h1 h2) e]; exact eo
  have hE : ∀ b o, E.fr b = some o → (othE E β H w fun j => ∃ i, i < H1.length ∧ ρ i = j).fr b = some o := by
    intro b o e
    rw [othE_miss]
    · exact e
    · intro j _ h2; rw [s.fro j b h2] at e; cases e
  refine ⟨r1.ren ρ, H', h', β', v, rfl, hk', X', ?_, R'.rep hv⟩
  refine ⟨s'.env, s'.imm, fun j y e => ?_, fun i j b e1 e2 => ?_, fun j b e => ?_, fun b o e => s'.frm b o (hE b o e), fun j b e => ?_⟩
  · rcases im j with ⟨i, hi, rfl⟩ | hj
    · have h2 : H1'[i]? = some (H1'[i]'(by omega)) := List.getElem?_eq_getElem (by omega)
      rw [hm' i _ h2] at e; cases e
      exact R'.blk (by omega) (s'.blk i _ h2)
    · rw [ho j hj] at e
      refine (s.blk j y e).keep X' (hβ2 j hj) fun hd hd' b hb => ?_
      have hbo : GA.blkOf β H j = some b := by unfold GA.blkOf; rw [e]; cases y <;> first | exact absurd rfl hd | exact absurd rfl hd' | exact hb
      obtain ⟨o, ho'⟩ := hsome j b hbo
      rw [ho', (hfr j b o hj hbo ho').1]
  · rcases im i with ⟨i0, hi, rfl⟩ | hi <;> rcases im j with ⟨j0, hj, rfl⟩ | hj
    · rw [hb1 i0 hi] at e1; rw [hb1 j0 hj] at e2
      rw [s'.own _ _ b e1 e2]
    · rw [hb1 i0 hi] at e1; rw [hb2 j hj] at e2
      obtain ⟨o, ho'⟩ := hsome j b e2
      have h3 := s'.fro _ _ e1
      rw [othE_hit (j := j) (fun ⟨i, h1, h2⟩ => hj i h1 h2) e2, ho'] at h3; cases h3
    · rw [hb2 i hi] at e1; rw [hb1 j0 hj] at e2
      obtain ⟨o, ho'⟩ := hsome i b e1
      have h3 := s'.fro _ _ e2
      rw [othE_hit (j := i) (fun ⟨i', h1, h2⟩ => hi i' h1 h2) e1, ho'] at h3; cases h3
    · rw [hb2 i hi] at e1; rw [hb2 j hj] at e2
      exact s.own _ _ b e1 e2
  · rcases im j with ⟨i, hi, rfl⟩ | hj
    · rw [hb1 i hi] at e; exact s'.fresh _ _ e
    · rw [hb2 j hj] at e
      obtain ⟨o, ho'⟩ := hsome j b e
      exact (hfr j b o hj e ho').2
  · rcases im j with ⟨i, hi, rfl⟩ | hj
    · rw [hb1 i hi] at e
      have h3 := s'.fro _ _ e
      cases hx : E.fr b with
      | none => rfl
      | some o => rw [hE b o hx] at h3; cases h3
    · rw [hb2 j hj] at e; exact s.fro _ _ e
end
end GA
end

section
namespace GA
open Go Go.RowKit
set_option linter.unusedVariables false

section
variable {P : Program} {T : Tab} {N : Nat} {ρ : Option Nat} {own : List Nat} {D : List Nat} {σ : St} {H : List Blk} {Q : Post} {E : Env} {h : Nat → Option Obj} {β : Nat → Value} {w : World}

structure RenS (f : Nat → Nat) (base : Nat) (H1 : List Blk) (σ1 : St) (H : List Blk) (σ : St) : Prop where
  inj : ∀ i j, i < H1.length → j < H1.length → f i = f j → i = j
  fix : ∀ i, i < base → f i = i
  len : base ≤ H1.length
  hm : ∀ (i : Nat) x1, H1[i]? = some x1 → H[f i]? = some (x1.ren f)
  lowb : ∀ (i : Nat) x1, i < base → H1[i]? = some x1 → x1.ren f = x1
  low : ∀ x ∈ H1, x.low H1.length = true
  st : ∀ t r, σ1 t = some r → σ t = some (r.ren f) ∧ r.low H1.length = true

theorem AWp.loopR {c : Code} {G : Type} (st : G → St) (hp : G → List Blk) (μ : G → Nat) (g0 : G) (hσ : ∀ t r, st g0 t = some r → σ t = some r) (hH : hp g0 = H) (hD : D = [])
    (round : ∀ g, AWp P N ρ c (thenQ (fun D' σ' H' => D' = D ∧ ∃ g' f, μ g' < μ g ∧ RenS f H.length (hp g') (st g') H' σ') Q) D (st g) (hp g)) : AWp P N ρ (.loop c) Q D σ H := by
  intro E h β a w s
  subst hH; subst hD
  let I : G → Act → World → Prop := fun g a w => ∃ h' β', Ext h β (hp g0) h' β' (hp g) ∧ Stands P E N h' β' [] (st g) (hp g) a w
  have least : ∀ a w, (∃ g, I g a w) → ∃ n, (∃ g, I g a w ∧ μ g = n) ∧ ∀ m, m < n → ¬ ∃ g, I g a w ∧ μ g = m :=
    fun a w ⟨g, hg⟩ => exists_least ⟨μ g, g, hg, rfl⟩
  classical
  let M : Act → World → Nat := fun a w => if e : ∃ g, I g a w then Classical.choose (least a w e) else 0
  have hM : ∀ a w (e : ∃ g, I g a w), (∃ g, I g a w ∧ μ g = M a w) ∧ ∀ g, I g a w → M a w ≤ μ g := by
    intro a w e
    have hc := Classical.choose_spec (least a w e)
    have hm : M a w = Classical.choose (least a w e) := by simp only [M, dif_pos e]
    rw [hm]
    refine ⟨hc.1, fun g hg => ?_⟩
    rcases Nat.lt_or_ge (μ g) (Classical.choose (least a w e)) with hlt | hge
    · exact absurd ⟨g, hg, rfl⟩ (hc.2 _ hlt)
    · exact hge
  refine wpIn_loop (fun a w => ∃ g, I g a w) M ⟨g0, h, β, Ext.refl _ _ _, s.sr, fun t r e => s.fits t r (hσ t r e), s.size, s.df⟩ ?_
  intro a' w' hI
  obtain ⟨⟨g, hg, hmu⟩, _⟩ := hM a' w' hI
  obtain ⟨h', β', X, s'⟩ := hg
  refine wpIn_mono (round g E h' β' a' w' s') ?_
  rintro e a'' w'' ⟨D'', σ'', H'', h'', β'', q, X', s''⟩
  cases e with
  | normal =>
    obtain ⟨rfl, g', f, hlt, r⟩ := q
    have R : Ren f (fun i => β'' (f i)) (hp g') β'' H'' := ⟨r.hm, fun _ _ => rfl⟩
    have hI' : I g' a'' w'' := by
      refine ⟨h'', fun i => β'' (f i), ⟨(X.trans X').imm, r.len, fun i x x' e e' => ?_⟩, R.sr s''.sr r.inj r.low, fun t r0 e => ?_, s''.size, s''.df.any⟩
      · have hi := (List.getElem?_eq_some_iff.1 e).1
        have h1 := r.hm i x' e'
        rw [r.fix i hi, r.lowb i x' hi e'] at h1
        have h2 := (X.trans X').to i x x' e h1
        cases x with
        | dead => exact h2
        | free => trivial
        | _ => simpa only [Blk.to, r.fix i hi] using h2
      · obtain ⟨h1, h2⟩ := r.st t r0 e
        obtain ⟨v, h3, h4⟩ := s''.fits t _ h1
        exact ⟨v, h3, R.unrep h4 rfl h2⟩
    refine ⟨⟨g', hI'⟩, ?_⟩
    have := (hM a'' w'' ⟨g', hI'⟩).2 g' hI'
    omega
  | _ => exact ⟨D'', σ'', H'', h'', β'', q, X.trans X', s''⟩

def rnF (l : List Nat) (i : Nat) : Nat := match lget l i with | some j => j | none => i
def XBlkR (f : Nat → Nat) (base : Nat) (x : Blk) (o : Option Blk) : Prop := (o = some x ∧ x.low base = true) ∨ o = some (x.ren f)
def XValR (f : Nat → Nat) (base : Nat) (x : AV) (o : Option AV) : Prop := (o = some x ∧ x.low base = true) ∨ o = some (x.ren f)
def BlksR (f : Nat → Nat) (base : Nat) (H : List Blk) : Nat → List Blk → Prop
  | _, [] => True
  | i, x :: l => XBlkR f base x (lget H (f i)) ∧ BlksR f base H (i + 1) l
def SubR (f : Nat → Nat) (base : Nat) (n : Nat) (σ : St) : List (Nat × AV) → Prop
  | [] => True
  | (t, r) :: l => (XValR f base r (σ t) ∧ r.low n = true) ∧ SubR f base n σ l
structure XAgainR {G : Type} (I : G → Prop) (L : G → List (Nat × AV)) (hp : G → List Blk) (μ : G → Nat) (base : Nat) (g : G) (D' : List Nat) (σ' : St) (H' : List Blk) : Prop where
  d : D' = []
  o : ∃ g' l, I g' ∧ μ g' < μ g ∧ (l.length = (hp g').length ∧ l.Nodup ∧ (∀ i, i < base → lget l i = some i) ∧ base ≤ l.length) ∧ (∀ x ∈ hp g', x.low (hp g').length = true) ∧ (∀ (i : Nat) x, i < base → lget (hp g') i = some x → x.low base = true) ∧
    BlksR (rnF l) base H' 0 (hp g') ∧ SubR (rnF l) base (hp g').length σ' (L g')

theorem mapS_low {f : Nat → Nat} {n : Nat} {α : Type} (h : ∀ i, i < n → f i = i) {es : List (α × AV)} (hl : lowL n (es.map (·.2)) = true) : (es.map fun p => (p.1, p.2.ren f)) = es := by
  have : ∀ p ∈ es, (fun p : α × AV => (p.1, p.2.ren f)) p = id p := fun p hp => by
    have := lowL_iff.1 hl p.2 (List.mem_map.2 ⟨p, hp, rfl⟩)
    simp only [id, AV.ren_low h this]
  rw [List.map_congr_left this, List.map_id]
theorem Blk.ren_low {f : Nat → Nat} {n : Nat} (h : ∀ i, i < n → f i = i) {x : Blk} (hl : x.low n = true) : x.ren f = x := by
  cases x with
  | cells cs => simp only [Blk.ren]; rw [renL_low h hl]
  | grow t nl els => simp only [Blk.ren]; rw [renL_low h hl]
  | map es => simp only [Blk.ren]; rw [mapS_low h hl]
  | lp st pend f tm ps x y n => simp only [Blk.ren]; rw [mapS_low h hl]
  | _ => rfl
theorem BlksR.get {f : Nat → Nat} {base : Nat} {H : List Blk} : ∀ {l : List Blk} {i : Nat}, BlksR f base H i l → ∀ (j : Nat) x, l[j]? = some x → XBlkR f base x (lget H (f (i + j)))
  | [], _, _, j, x, e => by simp at e
  | y :: l, i, h, 0, x, e => by simp at e; subst e; exact h.1
  | y :: l, i, h, j + 1, x, e => by
    have := BlksR.get h.2 j x (by simpa using e)
    rwa [Nat.add_right_comm] at this
theorem SubR.get {f : Nat → Nat} {base n : Nat} {σ : St} : ∀ {l : List (Nat × AV)}, SubR f base n σ l → ∀ t r, stX l t = some r → XValR f base r (σ t) ∧ r.low n = true
  | [], _, t, r, e => by cases e
  | (u, x) :: l, h, t, r, e => by
    simp only [stX, updX_eq, upd] at e
    split at e
    · rename_i hh; cases e; subst hh; exact h.1
    · exact SubR.get h.2 t r e
theorem Walk.loopR {c : Code} {G : Type} (ok : TabOk P T) (own : List Nat) (I : G → Prop) (L : G → List (Nat × AV)) (hp : G → List Blk) (μ : G → Nat) (g0 : G) (base : Nat) (h0 : I g0) (hH : hp g0 = H) (hb : base = H.length) (hs : SubX (L g0) σ)
    (round : ∀ g, I g → XRun P T N ρ own c (thenQ (XAgainR I L hp μ base g) Q) [] (stX (L g)) (hp g)) : Walk P N ρ (.loop c) Q [] σ H := by
  constructor
  refine AWp.loopR (G := {g : G // I g}) (fun g => stX (L g.1)) (fun g => hp g.1) (fun g => μ g.1) ⟨g0, h0⟩ (stX_sub hs) hH rfl fun g => ?_
  refine (XRun.sound ok (round g.1 g.2)).mono fun e D' σ' H' q => ?_
  cases e with
  | normal =>
    obtain ⟨h1, g', l, h2, h3, ⟨h4, h5, h6, h6'⟩, h7, h8, h9, h10⟩ := q
    have hfix : ∀ i, i < base → rnF l i = i := fun i hi => by unfold rnF; rw [h6 i hi]
    refine ⟨h1, ⟨g', h2⟩, rnF l, h3, ⟨fun i j hi hj e => ?_, by rw [← hb]; exact hfix, by rw [← hb, ← h4]; exact h6', fun i x e => ?_, fun i x hi e => ?_, h7, fun t r e => ?_⟩⟩
    · dsimp only at hi hj
      unfold rnF at e
      rw [lget_eq, lget_eq, List.getElem?_eq_getElem (by omega), List.getElem?_eq_getElem (by omega)] at e
      exact (List.getElem_inj h5).1 e
    · have := h9.get i x e
      rw [Nat.zero_add, lget_eq] at this
      rcases this with ⟨e1, e2⟩ | e1
      · rw [e1, Blk.ren_low hfix e2]
      · exact e1
    · rw [← hb] at hi
      exact Blk.ren_low hfix (h8 i x hi (by rw [lget_eq]; exact e))
    · obtain ⟨e0, e3⟩ := h10.get t r e
      refine ⟨?_, e3⟩
      rcases e0 with ⟨e1, e2⟩ | e1
      · rw [e1, AV.ren_low hfix e2]
      · exact e1
  | _ => exact q
theorem XAgainR.go {G : Type} {I : G → Prop} {L : G → List (Nat × AV)} {hp : G → List Blk} {μ : G → Nat} {base : Nat} {g : G} (g' : G) (l : List Nat) (h1 : I g') (h2 : μ g' < μ g) (h3 : l.length = (hp g').length ∧ l.Nodup ∧ (∀ i, i < base → lget l i = some i) ∧ base ≤ l.length)
    (h4 : ∀ x ∈ hp g', x.low (hp g').length = true) (h5 : ∀ (i : Nat) x, i < base → lget (hp g') i = some x → x.low base = true) (h6 : BlksR (rnF l) base H 0 (hp g')) (h7 : SubR (rnF l) base (hp g').length σ (L g')) : XAgainR I L hp μ base g [] σ H :=
  ⟨rfl, g', l, h1, h2, h3, h4, h5, h6, h7⟩

theorem opLoad_ex {t : TypeId} {p : AV} {k : AV → Prop} (x : opLoad P t H p k) : ∃ r, k r ∧ ∀ k' : AV → Prop, k' r → opLoad P t H p k' := by
  unfold opLoad at x
  obtain ⟨ti, h1, x⟩ := bnd_elim x
  obtain ⟨cs, h2, x⟩ := bnd_elim x
  split at x
  · rename_i e
    exact ⟨_, x.2, fun k' hk => by unfold opLoad; rw [h1, bnd_some, h2, bnd_some, if_pos e]; exact ⟨x.1, hk⟩⟩
  · rename_i e
    obtain ⟨c, h3, x⟩ := bnd_elim x
    exact ⟨c, x, fun k' hk => by unfold opLoad; rw [h1, bnd_some, h2, bnd_some, if_neg e, h3, bnd_some]; exact hk⟩
theorem resA_ex : ∀ {l : List ResultVar} {k : List AV → Prop}, resA P σ H l k → ∃ rs, k rs ∧ ∀ k' : List AV → Prop, k' rs → resA P σ H l k'
  | [], k, x => ⟨[], x, fun _ h => h⟩
  | .tmp t :: l, k, x => by
    obtain ⟨r, h1, x⟩ := bnd_elim x
    obtain ⟨rs, h2, h3⟩ := resA_ex x
    exact ⟨r :: rs, h2, fun k' h => by simp only [resA]; rw [h1, bnd_some]; exact h3 (fun rs => k' (r :: rs)) h⟩
  | .cell a t :: l, k, x => by
    obtain ⟨p, h1, x⟩ := bnd_elim x
    obtain ⟨r, x, h4⟩ := opLoad_ex x
    obtain ⟨rs, h2, h3⟩ := resA_ex x
    exact ⟨r :: rs, h2, fun k' h => by simp only [resA]; rw [h1, bnd_some]; exact h4 _ (h3 (fun rs => k' (r :: rs)) h)⟩
structure XCut (n : Nat) (D : List Nat) (H : List Blk) (r : AV) (k : AV → List Blk → Prop) : Prop where
  o : ∃ H1 l, H = H1 ++ l ∧ H1.length = n ∧ (∀ x ∈ H1, x.low n = true) ∧ D.Nodup ∧ (∀ i ∈ D, n ≤ i ∧ H[i]? = some (.raw (.deferred (some [])))) ∧ r.low n = true ∧ k r H1
def XFk (T : Tab) (res : List ResultVar) (n : Nat) (k : AV → List Blk → Prop) : Post := fun e D σ H =>
  match e with
  | .normal | .ret => xRes T σ H res fun rs => XCut n D H (pack rs) k
  | _ => False
theorem ACall.bodyK {f : FuncId} {fn : Func} {c : Code} {rs : List AV} {res : List ResultVar} {k : AV → List Blk → Prop} (ok : TabOk P T) (own : List Nat) (hf : P.funcs[f]? = some fn) (hb : fn.body = some c) (hn : (fn.name == "runtime.NumGoroutine") = false)
    (hN : fn.ntmps = N) (hr : fn.results = res.toArray) (hl : rs.length ≤ N) (x : XRun P T N none own c (XFk T res H.length k) [] (argX rs) H) : ACall P f rs H k := by
  subst hN
  refine ACall.of_body hf hb hn hl ?_
  rw [hr, ← argX_eq]
  refine (XRun.sound ok x).mono fun e D σ H' q => ?_
  have go : xRes T σ H' res (fun rs => XCut H.length D H' (pack rs) k) → ∃ H1 l, H' = H1 ++ l ∧ H.length ≤ H1.length ∧ (∀ x ∈ H1, x ∈ H ∨ x.low H1.length = true) ∧ D.Nodup ∧
    (∀ i ∈ D, H1.length ≤ i ∧ H'[i]? = some (.raw (.deferred (some [])))) ∧ resA P σ H' res fun rs => (pack rs).low H1.length = true ∧ k (pack rs) H1 := by
    intro x
    obtain ⟨rs, ⟨H1, l, h1, h2, h3, h4, h5, h6, h7⟩, hx⟩ := resA_ex (xRes_sound ok x)
    exact ⟨H1, l, h1, by omega, fun x hx => .inr (by rw [h2]; exact h3 x hx), h4, by rw [h2]; exact h5, hx _ ⟨by rw [h2]; exact h6, h7⟩⟩
  cases e <;> first | exact ⟨.inl rfl, go q⟩ | exact ⟨.inr rfl, go q⟩ | exact q.elim
theorem XCut.mk' {n : Nat} {H : List Blk} {r : AV} {k : AV → List Blk → Prop} (H1 l : List Blk) (h1 : H1 ++ l = H) (h2 : H1.length = n) (h3 : ∀ x ∈ H1, x.low n = true) (h4 : r.low n = true) (h5 : k r H1) : XCut n [] H r k :=
  ⟨H1, l, h1.symm, h2, h3, by simp, by simp, h4, h5⟩
end
end GA
end

section
namespace GA
open Go Go.RowKit Go.Proofs
set_option pp.deepTerms true
set_option maxRecDepth 8000
set_option linter.unusedVariables false
set_option linter.unusedSimpArgs false

def sumW : List Nat → Nat → Nat
  | [], _ => 0
  | w :: ws, s => (if s % 2 = 1 then w else 0) + sumW ws (s / 2)
def wt (l : Ld) (s : Sk) : Nat := (weightR l s).toNat
def wts (l : Ld) : List Nat := l.sacks.map (wt l)
def hvF (ws : List Nat) (n : Nat) : List Nat := (List.range 512).map fun s => if s < n then sumW ws s else 0
def ndI (n : Nat) : List Nat := (List.range 9).map fun i => if i < n then 2 ^ i else 0
theorem sumW_zero : ∀ ws : List Nat, sumW ws 0 = 0
  | [] => rfl
  | w :: ws => by unfold sumW; rw [Nat.zero_div, sumW_zero ws]; rfl
theorem sumW_add : ∀ (ws : List Nat) (i k : Nat), k < 2 ^ i → sumW ws (2 ^ i + k) = sumW ws k + ws.getD i 0
  | [], i, k, _ => by simp [sumW]
  | w :: ws, 0, k, h => by
    have : k = 0 := by simpa using h
    subst this
    simp [sumW, sumW_zero]
  | w :: ws, i + 1, k, h => by
    have e : 2 ^ (i + 1) = 2 * 2 ^ i := by rw [Nat.pow_succ]; omega
    have e1 : (2 ^ (i + 1) + k) % 2 = k % 2 := by omega
    have e2 : (2 ^ (i + 1) + k) / 2 = 2 ^ i + k / 2 := by omega
    unfold sumW
    rw [e1, e2, sumW_add ws i (k / 2) (by omega)]
    simp only [List.getD_cons_succ]; omega
theorem sumW_le : ∀ (ws : List Nat) (s : Nat), (∀ w ∈ ws, w ≤ 100) → sumW ws s ≤ 100 * ws.length
  | [], _, _ => by simp [sumW]
  | w :: ws, s, h => by
    have := sumW_le ws (s / 2) (fun x hx => h x (List.mem_cons_of_mem _ hx))
    have := h w List.mem_cons_self
    unfold sumW; simp only [List.length_cons]; split <;> omega
theorem hvF_len (ws : List Nat) (n : Nat) : (hvF ws n).length = 512 := by simp [hvF]
theorem ndI_len (n : Nat) : (ndI n).length = 9 := by simp [ndI]
theorem hvF_get {ws : List Nat} {n k : Nat} (hk : k < 512) : (hvF ws n).getD k 0 = if k < n then sumW ws k else 0 := by
  unfold hvF; rw [List.getD_eq_getElem?_getD, List.getElem?_map, List.getElem?_range hk]; rfl
theorem hvF_one (ws : List Nat) : hvF ws 1 = List.replicate 512 0 := by
  apply List.ext_getElem (by simp [hvF])
  intro i h1 h2
  simp only [hvF, List.getElem_map, List.getElem_range, List.getElem_replicate]
  split
  · rw [show i = 0 by omega, sumW_zero]
  · rfl
theorem hvF_set {ws : List Nat} {n v : Nat} (hn : n < 512) (hv : v = sumW ws n) : (hvF ws n).set n v = hvF ws (n + 1) := by
  subst hv
  apply List.ext_getElem (by simp [hvF])
  intro i h1 h2
  simp only [hvF, List.getElem_set, List.getElem_map, List.getElem_range]
  by_cases h : n = i
  · subst h; rw [if_pos rfl, if_pos (by omega)]
  · rw [if_neg h]
    by_cases h3 : i < n
    · rw [if_pos h3, if_pos (by omega)]
    · rw [if_neg h3, if_neg (by omega)]
theorem ndI_zero : ndI 0 = List.replicate 9 0 := by decide
theorem ndI_set {n : Nat} (hn : n < 9) : (ndI n).set n (2 ^ n) = ndI (n + 1) := by
  apply List.ext_getElem (by simp [ndI])
  intro i h1 h2
  simp only [ndI, List.getElem_set, List.getElem_map, List.getElem_range]
  by_cases h : n = i
  · subst h; rw [if_pos rfl, if_pos (by omega)]
  · rw [if_neg h]
    by_cases h3 : i < n
    · rw [if_pos h3, if_pos (by omega)]
    · rw [if_neg h3, if_neg (by omega)]
theorem ndI_small (n : Nat) : ∀ i, (ndI n).getD i 0 < 512 := by
  intro i
  rcases Nat.lt_or_ge i 9 with h | h
  · unfold ndI; rw [List.getD_eq_getElem?_getD, List.getElem?_map, List.getElem?_range h]
    simp only [Option.map_some, Option.getD_some]
    split
    · have := Nat.pow_le_pow_right (n := 2) (by omega) (show i ≤ 8 by omega); omega
    · omega
  · rw [List.getD_eq_getElem?_getD, List.getElem?_eq_none (by rw [ndI_len]; omega)]; simp

theorem desk_hv (d : Dk) {i : Nat} (hi : i < d.hv.length) : (deskC d)[5 + i]? = some (natA (d.hv.getD i 0)) := by
  unfold deskC
  rw [show 5 + i = i + 1 + 1 + 1 + 1 + 1 by omega]
  simp only [List.getElem?_cons_succ]
  rw [List.getElem?_append_left (by simpa using hi), List.getElem?_map, List.getD_eq_getElem?_getD, List.getElem?_eq_getElem hi]; rfl
theorem xdrop_dkW {d : Dk} {o : Nat} {k : List AV → Prop} (i : Nat) (ho : o = 5 + i) (hi : i < d.hv.length) (h : k (natA (d.hv.getD i 0) :: (deskC d).drop (o + 1))) : xdrop o (deskC d) k :=
  xdrop_at _ (by rw [ho]; exact desk_hv d hi) h
theorem xdrop_dkN {d : Dk} {k : List AV → Prop} (hh : d.hv.length = 512) (h : k (nats d.nd)) : xdrop 517 (deskC d) k :=
  xdrop_app (a := .int .i64 d.l.bears :: .int .i64 d.l.shrink :: .sl d.l.nls (d.l.sacks.map skA) :: .sl d.l.nla (d.l.apart.map prA) :: .sl d.l.nlw (d.l.wth.map prA) :: nats d.hv) (b := nats d.nd) (by simp [hh]) h
theorem splice_set {c : List AV} {o : Nat} {v : AV} (ho : o < c.length) : splice c o [v] = c.set o v := by
  rw [List.set_eq_take_append_cons_drop, if_pos ho]; simp [splice]
theorem xspl_dkW {d : Dk} {o : Nat} {v : Int} {k : List AV → Prop} (i m : Nat) (ho : o = 5 + i) (hv : v = (m : Int)) (hi : i < d.hv.length) (h : k (deskC { d with hv := d.hv.set i m })) : xspl (deskC d) o [.int .i64 v] k := by
  subst hv; subst ho
  have hl : 5 + i < (deskC d).length := by simp [deskC]; omega
  refine xspl_to _ (by simp only [List.length_cons, List.length_nil]; omega) ?_ h
  rw [splice_set hl]
  unfold deskC
  rw [show 5 + i = i + 1 + 1 + 1 + 1 + 1 by omega]
  simp only [List.set_cons_succ]
  rw [List.set_append, if_pos (by simpa using hi)]
  simp only [nats, List.map_set, natA]
theorem xspl_dkN {d : Dk} {o : Nat} {v : Int} {k : List AV → Prop} (i m : Nat) (hh : d.hv.length = 512) (ho : o = 517 + i) (hv : v = (m : Int)) (hi : i < d.nd.length) (h : k (deskC { d with nd := d.nd.set i m })) : xspl (deskC d) o [.int .i64 v] k := by
  subst hv; subst ho
  have hl : 517 + i < (deskC d).length := by simp [deskC]; omega
  refine xspl_to _ (by simp only [List.length_cons, List.length_nil]; omega) ?_ h
  rw [splice_set hl]
  unfold deskC
  rw [show 517 + i = 512 + i + 1 + 1 + 1 + 1 + 1 by omega]
  simp only [List.set_cons_succ]
  rw [List.set_append, if_neg (by simp [hh]), List.length_map, hh, Nat.add_sub_cancel_left]
  simp only [nats, List.map_set, natA]
theorem xspl_dkA {d : Dk} {b : List Nat} {k : List AV → Prop} (hh : d.hv.length = 512) (h1 : d.nd.length = 9) (h2 : b.length = 9) (h : k (deskC { d with nd := b })) : xspl (deskC d) 517 (nats b) k := by
  have hl : (deskC d).length = 526 := by simp [deskC, hh, h1]
  refine xspl_to _ (by simp [hl, h2]) ?_ h
  have e : deskC d = (.int .i64 d.l.bears :: .int .i64 d.l.shrink :: .sl d.l.nls (d.l.sacks.map skA) :: .sl d.l.nla (d.l.apart.map prA) :: .sl d.l.nlw (d.l.wth.map prA) :: nats d.hv) ++ nats d.nd := rfl
  unfold splice
  rw [List.drop_eq_nil_of_le (by simp [hl, h2]), List.append_nil, e, List.take_left' (by simp [hh])]
  rfl

def closeF (l : Ld) : Nat → List Nat → List Nat
  | 0, b => b
  | n + 1, b => if joinR l b = b then b else closeF l n (joinR l b)
def msr (b : List Nat) : Nat := (b.map fun x => 512 - x).sum
def openD (l : Ld) : Dk := ⟨l, hvF (wts l) (2 ^ l.sacks.length), closeF l 5000 (ndI l.sacks.length)⟩
theorem joinStep_ge (b : List Nat) (p : Int × Int) (i : Nat) : b.getD i 0 ≤ (joinStep b p).getD i 0 := by
  unfold joinStep
  simp only [List.getD_eq_getElem?_getD, List.getElem?_mapIdx]
  rcases Nat.lt_or_ge i b.length with h | h
  · rw [List.getElem?_eq_getElem h]
    simp only [Option.map_some, Option.getD_some]
    split
    · exact Nat.left_le_or
    · exact Nat.le_refl _
  · rw [List.getElem?_eq_none h]; simp
theorem foldl_ge : ∀ (ps : List (Int × Int)) (b : List Nat) (i : Nat), b.getD i 0 ≤ (ps.foldl joinStep b).getD i 0
  | [], _, _ => Nat.le_refl _
  | p :: ps, b, i => by rw [List.foldl_cons]; exact Nat.le_trans (joinStep_ge b p i) (foldl_ge ps _ i)
theorem joinR_ge (l : Ld) (b : List Nat) (i : Nat) : b.getD i 0 ≤ (joinR l b).getD i 0 := foldl_ge _ _ _
theorem joinR_len (l : Ld) (b : List Nat) : (joinR l b).length = b.length := foldl_len _ _
theorem joinR_small (l : Ld) (b : List Nat) (hs : ∀ i, b.getD i 0 < 512) : ∀ i, (joinR l b).getD i 0 < 512 := by
  have := joinI_small l b hs l.wth.length
  unfold joinI at this; rwa [List.take_length] at this
theorem msr_lt : ∀ (a b : List Nat), a.length = b.length → (∀ i, a.getD i 0 ≤ b.getD i 0) → (∀ i, b.getD i 0 < 512) → a ≠ b → msr b < msr a
  | [], [], _, _, _, h => absurd rfl h
  | x :: a, y :: b, hl, h1, h2, h3 => by
    have g1 := h1 0
    have g2 := h2 0
    simp only [List.getD_cons_zero] at g1 g2
    have i1 : ∀ i, a.getD i 0 ≤ b.getD i 0 := fun i => by simpa using h1 (i + 1)
    have i2 : ∀ i, b.getD i 0 < 512 := fun i => by simpa using h2 (i + 1)
    simp only [msr, List.map_cons, List.sum_cons]
    by_cases hab : a = b
    · subst hab
      have : x ≠ y := fun e => h3 (by rw [e])
      omega
    · have := msr_lt a b (by simpa using hl) i1 i2 hab
      unfold msr at this; omega
  | [], _ :: _, hl, _, _, _ => by simp at hl
  | _ :: _, [], hl, _, _, _ => by simp at hl
theorem msr_le (b : List Nat) (hb : b.length = 9) : msr b ≤ 4608 := by
  unfold msr
  match b, hb with
  | [a1, a2, a3, a4, a5, a6, a7, a8, a9], _ => simp; omega
theorem closeF_step (l : Ld) (n : Nat) (b : List Nat) (h : joinR l b ≠ b) : closeF l (n + 1) b = closeF l n (joinR l b) := by
  show (if joinR l b = b then b else _) = _; rw [if_neg h]
theorem closeF_stop (l : Ld) (n : Nat) (b : List Nat) (h : joinR l b = b) : closeF l n b = b := by
  cases n with
  | zero => rfl
  | succ n => show (if joinR l b = b then b else _) = _; rw [if_pos h]
end GA
end

section
namespace GA
open Go Go.RowKit Go.Proofs
set_option pp.deepTerms true
set_option maxRecDepth 8000
set_option linter.unusedVariables false
set_option linter.unusedSimpArgs false

structure LdOk (l : Ld) : Prop where
  n : l.sacks.length ≤ 9
  na : l.apart.length ≤ 8
  nw : l.wth.length ≤ 8
  b1 : 1 ≤ l.bears
  b2 : l.bears ≤ 100
  s1 : 0 ≤ l.shrink
  s2 : l.shrink ≤ 90
  sk : ∀ s ∈ l.sacks, 1 ≤ s.m ∧ s.m ≤ 100 ∧ 0 ≤ s.o ∧ s.o ≤ 5
  ap : ∀ p ∈ l.apart, 0 ≤ p.1 ∧ p.1 < l.sacks.length ∧ 0 ≤ p.2 ∧ p.2 < l.sacks.length ∧ p.1 ≠ p.2
  wp : ∀ p ∈ l.wth, 0 ≤ p.1 ∧ p.1 < l.sacks.length ∧ 0 ≤ p.2 ∧ p.2 < l.sacks.length ∧ p.1 ≠ p.2
theorem inB_iff {n lo hi : Int} : inB n lo hi = true ↔ lo ≤ n ∧ n ≤ hi := by simp [inB]
theorem checkR_ok (l : Ld) : checkR l = 0 ↔ LdOk l := by
  unfold checkR
  constructor
  · intro h
    split at h
    · cases h
    rename_i h1
    split at h
    · cases h
    rename_i h2
    split at h
    · cases h
    rename_i h3
    split at h
    · cases h
    rename_i h4
    split at h
    · cases h
    rename_i h5
    simp only [Bool.not_eq_false, Bool.and_eq_true, inB_iff, List.all_eq_true, prIn, List.mem_append, bne_iff_ne] at h2 h3 h4 h5
    refine ⟨by omega, by omega, by omega, by omega, by omega, by omega, by omega, fun s hs => ?_, fun p hp => ?_, fun p hp => ?_⟩
    · have := h3 s hs; omega
    · have a := h4 p (.inl hp); have b := h5 p (.inl hp); exact ⟨by omega, by omega, by omega, by omega, b⟩
    · have a := h4 p (.inr hp); have b := h5 p (.inr hp); exact ⟨by omega, by omega, by omega, by omega, b⟩
  · intro o
    rw [if_neg (by have := o.n; have := o.na; have := o.nw; omega)]
    rw [if_neg (by simp only [Bool.not_eq_false, Bool.and_eq_true, inB_iff]; have := o.b1; have := o.b2; have := o.s1; have := o.s2; omega)]
    rw [if_neg (by simp only [Bool.not_eq_false, Bool.and_eq_true, inB_iff, List.all_eq_true]; intro s hs; have := o.sk s hs; omega)]
    rw [if_neg (by
      simp only [Bool.not_eq_false, Bool.and_eq_true, inB_iff, List.all_eq_true, prIn, List.mem_append]
      rintro p (hp | hp)
      · have := o.ap p hp; omega
      · have := o.wp p hp; omega)]
    rw [if_neg (by
      simp only [Bool.not_eq_false, List.all_eq_true, List.mem_append, bne_iff_ne]
      rintro p (hp | hp)
      · exact (o.ap p hp).2.2.2.2
      · exact (o.wp p hp).2.2.2.2)]
theorem wt_le {l : Ld} (o : LdOk l) {s : Sk} (hs : s ∈ l.sacks) : (wt l s : Int) = weightR l s ∧ 1 ≤ wt l s ∧ wt l s ≤ 100 := by
  have h := o.sk s hs
  have h1 := o.s1
  have h2 := o.s2
  have e : s.m * l.shrink ≤ s.m * 90 := Int.mul_le_mul_of_nonneg_left h2 (by omega)
  have e0 : 0 ≤ s.m * l.shrink := Int.mul_nonneg (by omega) h1
  unfold wt weightR
  omega
theorem wts_le {l : Ld} (o : LdOk l) : ∀ w ∈ wts l, w ≤ 100 := by
  intro w hw
  obtain ⟨s, hs, rfl⟩ := List.mem_map.1 hw
  exact (wt_le o hs).2.2
theorem wts_get (l : Ld) {i : Nat} (hi : i < l.sacks.length) : (wts l).getD i 0 = wt l (l.sacks.getD i default) := by
  unfold wts; rw [List.getD_eq_getElem?_getD, List.getElem?_map, List.getD_eq_getElem?_getD, List.getElem?_eq_getElem hi]; rfl
theorem hvF_le {l : Ld} (o : LdOk l) (n i : Nat) : (hvF (wts l) n).getD i 0 ≤ 900 := by
  rcases Nat.lt_or_ge i 512 with h | h
  · rw [hvF_get h]
    split
    · have h1 := sumW_le (wts l) i (wts_le o)
      have h2 : (wts l).length = l.sacks.length := by simp [wts]
      have := o.n
      omega
    · omega
  · rw [List.getD_eq_getElem?_getD, List.getElem?_eq_none (by rw [hvF_len]; omega)]; simp
theorem lowOne {d : Dk} : ∀ x ∈ deskC d, x.one = true := by
  intro x hx
  simp only [deskC, List.mem_cons, List.mem_append, List.mem_map] at hx
  rcases hx with rfl | rfl | rfl | rfl | rfl | ⟨_, _, rfl⟩ | ⟨_, _, rfl⟩ <;> rfl
def openR (l : Ld) : AV := if checkR l = 0 then .tup [.pim (deskC (openD l)), .int .i64 0] else .tup [.nilp, .int .i64 (checkR l)]
theorem arr_eq {xs ys : List Nat} : ((xs.map fun n : Nat => (n : Int)) == (ys.map fun n : Nat => (n : Int))) = (xs == ys) := by
  rw [Bool.eq_iff_iff, beq_iff_eq, beq_iff_eq]
  exact ⟨fun h => (List.map_inj_right (fun _ _ => Int.ofNat.inj)).1 h, fun h => by rw [h]⟩
theorem nats_ints (b : List Nat) : nats b = (b.map fun n : Nat => (n : Int)).map (.int .i64) := by simp [nats, natA]

set_option maxHeartbeats 1000000 in
theorem opened_c (l : Ld) (hw : l.nla = true → l.apart = []) (h1 : l.sacks.length ≤ 100000) (h2 : l.apart.length ≤ 1000) (h3 : l.wth.length ≤ 1000) : Comp Try.prog 77 [ldA l] (openR l) := by
  refine Comp.body' (T := tab) (res := [.tmp 2, .tmp 3]) tab_ok [17] Try.func77 rfl (by kernel_rfl) Try.ntmps77 rfl (by simp only [List.length_cons, List.length_nil]; decide) (by simp only [lowL, AV.low, ldL]; rfl) ?_; conv => whnf
  refine XCall.ret (check_c l hw h1 h2 h3) ?_
  conv => whnf
  repeat' first | ((with_reducible first | apply XBr.tt | apply XBr.ff | apply Chk.go | apply ChkA.go | apply ChkF.go | apply ChkB.go | apply XArr.pim0 | apply XArr.pim1); conv => whnf) | (with_reducible apply XBr.not) | ((with_reducible apply XBr.dec) <;> (intro h; first | (exfalso; omega) | ((try simp only [List.length_map] at h); first | (exfalso; omega) | (conv => whnf)))) | ((with_reducible first | apply XBr.beq | apply XBr.bne) <;> (intro h; first | (exfalso; omega) | (conv => whnf))) | ((with_reducible refine XInt.i64 (by omega) (by omega) ?_); conv => whnf) | ((with_reducible refine XHold.mk ?_ ?_); (first | omega | rfl | decide | exact ⟨rfl, by decide, rfl⟩ | exact wideI _ | exact widePr _ | exact wideSk _ | (unfold Room; constructor <;> ((try simp) <;> omega)) | exact ⟨rfl, by simp only [List.length_map], by unfold Room; constructor <;> ((try simp) <;> omega)⟩ | exact ⟨by omega, by omega, by unfold Room; constructor <;> ((try simp) <;> omega)⟩); conv => whnf) | ((first | ((with_reducible refine XIx.nat ?_ ?_ ?_); omega; (intro _; rfl)) | ((with_reducible refine XIx.map ?_ ?_ ?_ ?_); omega; omega; (intro _; rfl))); conv => whnf) | (with_reducible apply XAnd.mk) | (exact XSame.mk rfl rfl) | (exact XSame.mk (by first | rfl | (simp only [List.map_append, List.length_append, List.length_map]; done) | (simp only [List.map_append, List.length_append, List.length_map]; rfl)) (by first | rfl | (simp only [List.map_append]; done) | (simp only [List.map_append]; rfl))) | (with_reducible exact trivial) | ((first | (with_reducible refine xdrop_app (by rw [List.length_map]; omega) ?_) | (with_reducible refine XDrop.desk (by assumption) ?_) | (with_reducible first | refine XArr.ints (by omega) (by omega) (by omega) ?_ | refine XArr.intsA (by omega) (by omega) (by omega) ?_) | ((with_reducible first | refine XArr.nats ?_ ?_ ?_ | refine XArr.natsA ?_ ?_ ?_ | refine XArr.ptr ?_ ?_ ?_); omega; omega)); conv => whnf) | ((with_reducible apply XBr.mk') <;> (intro h; conv => whnf))
  · refine ⟨?_⟩
    unfold openR; rw [if_neg h]
    exact Froz.low rfl
  have ok := (checkR_ok l).1 h
  have g := ok.n
  refine Walk.loopG tab_ok [] (fun i : Nat => i ≤ l.sacks.length) (fun i => [(1, .pim (ldC l)), (5, .ptr 0 0), (19, .sl l.nls (l.sacks.map skA)), (20, .int .i64 l.sacks.length), (21, .int .i64 i)])
    (fun i => [.cells (deskC ⟨l, hvF (wts l) (2 ^ i), ndI i⟩)]) (fun i => l.sacks.length - i) 0 (by omega) ?_ ⟨rfl, rfl, rfl, by simp only [List.length_map]; rfl, rfl, trivial⟩ ?_ ?_ ?_
  · rw [show 2 ^ 0 = 1 from rfl, hvF_one, ndI_zero]; unfold deskC; simp only [nats, List.map_replicate, List.replicate_append_replicate]; rfl
  · intro i _
    constructor
    · intro x hx; simp at hx; subst hx
      simp only [Blk.low, lowDk]
    · intro p hp; simp at hp; rcases hp with rfl | rfl | rfl | rfl | rfl <;> simp [AV.low, lowSk, lowLd]
  · intro i _; simp
  · intro i hi
    conv => whnf
    repeat' first | ((with_reducible first | apply XBr.tt | apply XBr.ff | apply Chk.go | apply ChkA.go | apply ChkF.go | apply ChkB.go | apply XArr.pim0 | apply XArr.pim1); conv => whnf) | (with_reducible apply XBr.not) | ((with_reducible apply XBr.dec) <;> (intro h; first | (exfalso; omega) | ((try simp only [List.length_map] at h); first | (exfalso; omega) | (conv => whnf)))) | ((with_reducible first | apply XBr.beq | apply XBr.bne) <;> (intro h; first | (exfalso; omega) | (conv => whnf))) | ((with_reducible refine XInt.i64 (by omega) (by omega) ?_); conv => whnf) | ((with_reducible refine XHold.mk ?_ ?_); (first | omega | rfl | decide | exact ⟨rfl, by decide, rfl⟩ | exact wideI _ | exact widePr _ | exact wideSk _ | (unfold Room; constructor <;> ((try simp) <;> omega)) | exact ⟨rfl, by simp only [List.length_map], by unfold Room; constructor <;> ((try simp) <;> omega)⟩ | exact ⟨by omega, by omega, by unfold Room; constructor <;> ((try simp) <;> omega)⟩); conv => whnf) | ((first | ((with_reducible refine XIx.nat ?_ ?_ ?_); omega; (intro _; rfl)) | ((with_reducible refine XIx.map ?_ ?_ ?_ ?_); omega; omega; (intro _; rfl))); conv => whnf) | (with_reducible apply XAnd.mk) | (exact XSame.mk rfl rfl) | (exact XSame.mk (by first | rfl | (simp only [List.map_append, List.length_append, List.length_map]; done) | (simp only [List.map_append, List.length_append, List.length_map]; rfl)) (by first | rfl | (simp only [List.map_append]; done) | (simp only [List.map_append]; rfl))) | (with_reducible exact trivial) | ((first | (with_reducible refine xdrop_app (by rw [List.length_map]; omega) ?_) | (with_reducible refine XDrop.desk (by assumption) ?_) | (with_reducible first | refine XArr.ints (by omega) (by omega) (by omega) ?_ | refine XArr.intsA (by omega) (by omega) (by omega) ?_) | ((with_reducible first | refine XArr.nats ?_ ?_ ?_ | refine XArr.natsA ?_ ?_ ?_ | refine XArr.ptr ?_ ?_ ?_); omega; omega)); conv => whnf) | ((with_reducible apply XBr.mk') <;> (intro h; conv => whnf))
    · have p9 := pow9 (n := i) (by omega)
      have hsm := getD_mem (xs := l.sacks) (i := i) (d := default) (by omega)
      have hw2 := wt_le ok hsm
      have hok := ok.sk _ hsm
      have hs1 := ok.s1
      have hs2 := ok.s2
      generalize hse : l.sacks.getD i default = s at hsm hw2 hok
      apply Walk.drawX tab_ok mixed_ok [] [7] (hsC [[.cells (deskC ⟨l, hvF (wts l) (2 ^ i), ndI i⟩), .cells [.int .i64 s.m, .int .i64 s.o]], [.cells (deskC ⟨l, hvF (wts l) (2 ^ i), (ndI i).set i (2 ^ i)⟩), .cells [.int .i64 s.m, .int .i64 s.o]]])
        [_, _, _, natA (2 ^ i), _, _, _, _] (by kernel_rfl) rfl
      · skip
        repeat' first | ((with_reducible first | apply XBr.tt | apply XBr.ff | apply Chk.go | apply ChkA.go | apply ChkF.go | apply ChkB.go | apply XArr.pim0 | apply XArr.pim1); conv => whnf) | (with_reducible apply XBr.not) | ((with_reducible apply XBr.dec) <;> (intro h; first | (exfalso; omega) | ((try simp only [List.length_map] at h); first | (exfalso; omega) | (conv => whnf)))) | ((with_reducible first | apply XBr.beq | apply XBr.bne) <;> (intro h; first | (exfalso; omega) | (conv => whnf))) | ((with_reducible refine XInt.i64 (by omega) (by omega) ?_); conv => whnf) | ((with_reducible refine XHold.mk ?_ ?_); (first | omega | rfl | decide | exact ⟨rfl, by decide, rfl⟩ | exact wideI _ | exact widePr _ | exact wideSk _ | (unfold Room; constructor <;> ((try simp) <;> omega)) | exact ⟨rfl, by simp only [List.length_map], by unfold Room; constructor <;> ((try simp) <;> omega)⟩ | exact ⟨by omega, by omega, by unfold Room; constructor <;> ((try simp) <;> omega)⟩); conv => whnf) | ((first | ((with_reducible refine XIx.nat ?_ ?_ ?_); omega; (intro _; rfl)) | ((with_reducible refine XIx.map ?_ ?_ ?_ ?_); omega; omega; (intro _; rfl))); conv => whnf) | (with_reducible apply XAnd.mk) | (exact XSame.mk rfl rfl) | (exact XSame.mk (by first | rfl | (simp only [List.map_append, List.length_append, List.length_map]; done) | (simp only [List.map_append, List.length_append, List.length_map]; rfl)) (by first | rfl | (simp only [List.map_append]; done) | (simp only [List.map_append]; rfl))) | (with_reducible exact trivial) | ((first | (with_reducible refine xdrop_app (by rw [List.length_map]; omega) ?_) | (with_reducible refine XDrop.desk (by assumption) ?_) | (with_reducible first | refine XArr.ints (by omega) (by omega) (by omega) ?_ | refine XArr.intsA (by omega) (by omega) (by omega) ?_) | ((with_reducible first | refine XArr.nats ?_ ?_ ?_ | refine XArr.natsA ?_ ?_ ?_ | refine XArr.ptr ?_ ?_ ?_); omega; omega) | (refine XInt.eq (y := ((2 ^ i : Nat) : Int)) (shl_nat (by omega)) (by omega) (by omega) ?_) | (refine xspl_dkN i (2 ^ i) (hvF_len _ _) (by omega) rfl (by rw [ndI_len]; omega) ?_)); conv => whnf) | ((with_reducible apply XBr.mk') <;> (intro h; conv => whnf))
      · skip
        repeat' first | ((with_reducible first | apply XBr.tt | apply XBr.ff | apply Chk.go | apply ChkA.go | apply ChkF.go | apply ChkB.go | apply XArr.pim0 | apply XArr.pim1); conv => whnf) | (with_reducible apply XBr.not) | ((with_reducible apply XBr.dec) <;> (intro h; first | (exfalso; omega) | ((try simp only [List.length_map] at h); first | (exfalso; omega) | (conv => whnf)))) | ((with_reducible first | apply XBr.beq | apply XBr.bne) <;> (intro h; first | (exfalso; omega) | (conv => whnf))) | ((with_reducible refine XInt.i64 (by omega) (by omega) ?_); conv => whnf) | ((with_reducible refine XHold.mk ?_ ?_); (first | omega | rfl | decide | exact ⟨rfl, by decide, rfl⟩ | exact wideI _ | exact widePr _ | exact wideSk _ | (unfold Room; constructor <;> ((try simp) <;> omega)) | exact ⟨rfl, by simp only [List.length_map], by unfold Room; constructor <;> ((try simp) <;> omega)⟩ | exact ⟨by omega, by omega, by unfold Room; constructor <;> ((try simp) <;> omega)⟩); conv => whnf) | ((first | ((with_reducible refine XIx.nat ?_ ?_ ?_); omega; (intro _; rfl)) | ((with_reducible refine XIx.map ?_ ?_ ?_ ?_); omega; omega; (intro _; rfl))); conv => whnf) | (with_reducible apply XAnd.mk) | (exact XSame.mk rfl rfl) | (exact XSame.mk (by first | rfl | (simp only [List.map_append, List.length_append, List.length_map]; done) | (simp only [List.map_append, List.length_append, List.length_map]; rfl)) (by first | rfl | (simp only [List.map_append]; done) | (simp only [List.map_append]; rfl))) | (with_reducible exact trivial) | ((first | (with_reducible refine xdrop_app (by rw [List.length_map]; omega) ?_) | (with_reducible refine XDrop.desk (by assumption) ?_) | (with_reducible first | refine XArr.ints (by omega) (by omega) (by omega) ?_ | refine XArr.intsA (by omega) (by omega) (by omega) ?_) | ((with_reducible first | refine XArr.nats ?_ ?_ ?_ | refine XArr.natsA ?_ ?_ ?_ | refine XArr.ptr ?_ ?_ ?_); omega; omega)); conv => whnf) | ((with_reducible apply XBr.mk') <;> (intro h; conv => whnf))
      · rw [ndI_set (by omega)]
        conv => whnf
        repeat' first | ((with_reducible first | apply XBr.tt | apply XBr.ff | apply Chk.go | apply ChkA.go | apply ChkF.go | apply ChkB.go | apply XArr.pim0 | apply XArr.pim1); conv => whnf) | (with_reducible apply XBr.not) | ((with_reducible apply XBr.dec) <;> (intro h; first | (exfalso; omega) | ((try simp only [List.length_map] at h); first | (exfalso; omega) | (conv => whnf)))) | ((with_reducible first | apply XBr.beq | apply XBr.bne) <;> (intro h; first | (exfalso; omega) | (conv => whnf))) | ((with_reducible refine XInt.i64 (by omega) (by omega) ?_); conv => whnf) | ((with_reducible refine XHold.mk ?_ ?_); (first | omega | rfl | decide | exact ⟨rfl, by decide, rfl⟩ | exact wideI _ | exact widePr _ | exact wideSk _ | (unfold Room; constructor <;> ((try simp) <;> omega)) | exact ⟨rfl, by simp only [List.length_map], by unfold Room; constructor <;> ((try simp) <;> omega)⟩ | exact ⟨by omega, by omega, by unfold Room; constructor <;> ((try simp) <;> omega)⟩); conv => whnf) | ((first | ((with_reducible refine XIx.nat ?_ ?_ ?_); omega; (intro _; rfl)) | ((with_reducible refine XIx.map ?_ ?_ ?_ ?_); omega; omega; (intro _; rfl))); conv => whnf) | (with_reducible apply XAnd.mk) | (exact XSame.mk rfl rfl) | (exact XSame.mk (by first | rfl | (simp only [List.map_append, List.length_append, List.length_map]; done) | (simp only [List.map_append, List.length_append, List.length_map]; rfl)) (by first | rfl | (simp only [List.map_append]; done) | (simp only [List.map_append]; rfl))) | (with_reducible exact trivial) | ((first | (with_reducible refine xdrop_app (by rw [List.length_map]; omega) ?_) | (with_reducible refine XDrop.desk (by assumption) ?_) | (with_reducible first | refine XArr.ints (by omega) (by omega) (by omega) ?_ | refine XArr.intsA (by omega) (by omega) (by omega) ?_) | ((with_reducible first | refine XArr.nats ?_ ?_ ?_ | refine XArr.natsA ?_ ?_ ?_ | refine XArr.ptr ?_ ?_ ?_); omega; omega)); conv => whnf) | ((with_reducible apply XBr.mk') <;> (intro h; conv => whnf))
        refine XInt.eq (y := ((2 ^ i : Nat) : Int)) (shl_nat (by omega)) (by omega) (by omega) ?_
        conv => whnf
        refine Walk.loop tab_ok [] (fun k : Nat => k ≤ 2 ^ i) (fun k => [(1, .pim (ldC l)), (5, .ptr 0 0), (19, .sl l.nls (l.sacks.map skA)), (20, .int .i64 l.sacks.length), (21, .int .i64 i), (6, .int .i64 i), (7, .ptr 1 0), (34, .int .i64 (2 ^ i : Nat)), (35, .int .i64 k)])
          (fun k => [.cells (deskC ⟨l, hvF (wts l) (2 ^ i + k), ndI (i + 1)⟩), .cells [.int .i64 s.m, .int .i64 s.o]]) (fun k => 2 ^ i - k) 0 (by omega) rfl ⟨rfl, rfl, rfl, rfl, rfl, rfl, rfl, rfl, rfl, trivial⟩ ?_
        intro k hk
        conv => whnf
        repeat' first | ((with_reducible first | apply XBr.tt | apply XBr.ff | apply Chk.go | apply ChkA.go | apply ChkF.go | apply ChkB.go | apply XArr.pim0 | apply XArr.pim1); conv => whnf) | (with_reducible apply XBr.not) | ((with_reducible apply XBr.dec) <;> (intro h; first | (exfalso; omega) | ((try simp only [List.length_map] at h); first | (exfalso; omega) | (conv => whnf)))) | ((with_reducible first | apply XBr.beq | apply XBr.bne) <;> (intro h; first | (exfalso; omega) | (conv => whnf))) | ((with_reducible refine XInt.i64 (by omega) (by omega) ?_); conv => whnf) | ((with_reducible refine XHold.mk ?_ ?_); (first | omega | rfl | decide | exact ⟨rfl, by decide, rfl⟩ | exact wideI _ | exact widePr _ | exact wideSk _ | (unfold Room; constructor <;> ((try simp) <;> omega)) | exact ⟨rfl, by simp only [List.length_map], by unfold Room; constructor <;> ((try simp) <;> omega)⟩ | exact ⟨by omega, by omega, by unfold Room; constructor <;> ((try simp) <;> omega)⟩); conv => whnf) | ((first | ((with_reducible refine XIx.nat ?_ ?_ ?_); omega; (intro _; rfl)) | ((with_reducible refine XIx.map ?_ ?_ ?_ ?_); omega; omega; (intro _; rfl))); conv => whnf) | (with_reducible apply XAnd.mk) | (exact XSame.mk rfl rfl) | (exact XSame.mk (by first | rfl | (simp only [List.map_append, List.length_append, List.length_map]; done) | (simp only [List.map_append, List.length_append, List.length_map]; rfl)) (by first | rfl | (simp only [List.map_append]; done) | (simp only [List.map_append]; rfl))) | (with_reducible exact trivial) | ((first | (with_reducible refine xdrop_app (by rw [List.length_map]; omega) ?_) | (with_reducible refine XDrop.desk (by assumption) ?_) | (with_reducible first | refine XArr.ints (by omega) (by omega) (by omega) ?_ | refine XArr.intsA (by omega) (by omega) (by omega) ?_) | ((with_reducible first | refine XArr.nats ?_ ?_ ?_ | refine XArr.natsA ?_ ?_ ?_ | refine XArr.ptr ?_ ?_ ?_); omega; omega)); conv => whnf) | ((with_reducible apply XBr.mk') <;> (intro h; conv => whnf))
        · have p8 : 2 ^ i ≤ 256 := Nat.pow_le_pow_right (n := 2) (by omega) (show i ≤ 8 by omega)
          have hk2 : k < 2 ^ i := by omega
          have hle := hvF_le ok (2 ^ i + k) k
          have hor : ior .i64 (k : Int) ((2 ^ i : Nat) : Int) = ((2 ^ i + k : Nat) : Int) := by
            rw [ior_nat (by omega) (by omega)]
            have := Nat.two_pow_add_eq_or_of_lt hk2 1
            rw [Nat.mul_one] at this; rw [this, Nat.or_comm]
          have hget : (hvF (wts l) (2 ^ i + k)).getD k 0 = sumW (wts l) k := by rw [hvF_get (by omega), if_pos (by omega)]
          have hsum : sumW (wts l) (2 ^ i + k) = sumW (wts l) k + wt l s := by rw [sumW_add _ _ _ hk2, wts_get l (by omega), hse]
          have hset : (hvF (wts l) (2 ^ i + k)).set (2 ^ i + k) (sumW (wts l) k + wt l s) = hvF (wts l) (2 ^ i + (k + 1)) := hvF_set (by omega) hsum.symm
          rw [hget] at hle
          apply Walk.drawX tab_ok mixed_ok [] [18] (hsC [[.cells (deskC ⟨l, hvF (wts l) (2 ^ i + k), ndI (i + 1)⟩), .cells [.int .i64 s.m, .int .i64 s.o]], [.cells (deskC ⟨l, hvF (wts l) (2 ^ i + (k + 1)), ndI (i + 1)⟩), .cells [.int .i64 s.m, .int .i64 s.o]]])
            [_, _, _, natA (2 ^ i), natA (2 ^ i + k), _, _, _, _, _, natA (sumW (wts l) k), _, _, natA (wt l s), natA (sumW (wts l) k + wt l s), _, _, _, _] (by kernel_rfl) rfl
          · skip
            repeat' first | ((with_reducible first | apply XBr.tt | apply XBr.ff | apply Chk.go | apply ChkA.go | apply ChkF.go | apply ChkB.go | apply XArr.pim0 | apply XArr.pim1); conv => whnf) | (with_reducible apply XBr.not) | ((with_reducible apply XBr.dec) <;> (intro h; first | (exfalso; omega) | ((try simp only [List.length_map] at h); first | (exfalso; omega) | (conv => whnf)))) | ((with_reducible first | apply XBr.beq | apply XBr.bne) <;> (intro h; first | (exfalso; omega) | (conv => whnf))) | ((with_reducible refine XInt.i64 (by omega) (by omega) ?_); conv => whnf) | ((with_reducible refine XHold.mk ?_ ?_); (first | omega | rfl | decide | exact ⟨rfl, by decide, rfl⟩ | exact wideI _ | exact widePr _ | exact wideSk _ | (unfold Room; constructor <;> ((try simp) <;> omega)) | exact ⟨rfl, by simp only [List.length_map], by unfold Room; constructor <;> ((try simp) <;> omega)⟩ | exact ⟨by omega, by omega, by unfold Room; constructor <;> ((try simp) <;> omega)⟩); conv => whnf) | ((first | ((with_reducible refine XIx.nat ?_ ?_ ?_); omega; (intro _; rfl)) | ((with_reducible refine XIx.map ?_ ?_ ?_ ?_); omega; omega; (intro _; rfl))); conv => whnf) | (with_reducible apply XAnd.mk) | (exact XSame.mk rfl rfl) | (exact XSame.mk (by first | rfl | (simp only [List.map_append, List.length_append, List.length_map]; done) | (simp only [List.map_append, List.length_append, List.length_map]; rfl)) (by first | rfl | (simp only [List.map_append]; done) | (simp only [List.map_append]; rfl))) | (with_reducible exact trivial) | ((first | (with_reducible refine xdrop_app (by rw [List.length_map]; omega) ?_) | (with_reducible refine XDrop.desk (by assumption) ?_) | (with_reducible first | refine XArr.ints (by omega) (by omega) (by omega) ?_ | refine XArr.intsA (by omega) (by omega) (by omega) ?_) | ((with_reducible first | refine XArr.nats ?_ ?_ ?_ | refine XArr.natsA ?_ ?_ ?_ | refine XArr.ptr ?_ ?_ ?_); omega; omega) | (refine XInt.eq (y := ((2 ^ i : Nat) : Int)) (shl_nat (by omega)) (by omega) (by omega) ?_)); conv => whnf) | (exact XSame.mk (congrArg (AV.int .i64) hor) rfl) | ((refine xdrop_dkW (d := ⟨l, hvF (wts l) (2 ^ i + k), ndI (i + 1)⟩) k (by omega) (by rw [hvF_len]; omega) ?_); conv => whnf) | (exact XSame.mk (congrArg (fun n : Nat => AV.int .i64 n) hget) rfl) | ((refine XCall.ret (weight_c l s (by omega) (by omega) (by omega) (by omega)) ?_); conv => whnf) | (exact XSame.mk (congrArg (AV.int .i64) hw2.1.symm) rfl) | (((refine xspl_dkW (d := ⟨l, hvF (wts l) (2 ^ i + k), ndI (i + 1)⟩) (2 ^ i + k) (sumW (wts l) k + wt l s) (by omega) rfl (by rw [hvF_len]; omega) ?_); dsimp only; rw [hset]); conv => whnf) | ((with_reducible apply XBr.mk') <;> (intro h; conv => whnf))
          · skip
            repeat' first | ((with_reducible first | apply XBr.tt | apply XBr.ff | apply Chk.go | apply ChkA.go | apply ChkF.go | apply ChkB.go | apply XArr.pim0 | apply XArr.pim1); conv => whnf) | (with_reducible apply XBr.not) | ((with_reducible apply XBr.dec) <;> (intro h; first | (exfalso; omega) | ((try simp only [List.length_map] at h); first | (exfalso; omega) | (conv => whnf)))) | ((with_reducible first | apply XBr.beq | apply XBr.bne) <;> (intro h; first | (exfalso; omega) | (conv => whnf))) | ((with_reducible refine XInt.i64 (by omega) (by omega) ?_); conv => whnf) | ((with_reducible refine XHold.mk ?_ ?_); (first | omega | rfl | decide | exact ⟨rfl, by decide, rfl⟩ | exact wideI _ | exact widePr _ | exact wideSk _ | (unfold Room; constructor <;> ((try simp) <;> omega)) | exact ⟨rfl, by simp only [List.length_map], by unfold Room; constructor <;> ((try simp) <;> omega)⟩ | exact ⟨by omega, by omega, by unfold Room; constructor <;> ((try simp) <;> omega)⟩); conv => whnf) | ((first | ((with_reducible refine XIx.nat ?_ ?_ ?_); omega; (intro _; rfl)) | ((with_reducible refine XIx.map ?_ ?_ ?_ ?_); omega; omega; (intro _; rfl))); conv => whnf) | (with_reducible apply XAnd.mk) | (exact XSame.mk rfl rfl) | (exact XSame.mk (by first | rfl | (simp only [List.map_append, List.length_append, List.length_map]; done) | (simp only [List.map_append, List.length_append, List.length_map]; rfl)) (by first | rfl | (simp only [List.map_append]; done) | (simp only [List.map_append]; rfl))) | (with_reducible exact trivial) | ((first | (with_reducible refine xdrop_app (by rw [List.length_map]; omega) ?_) | (with_reducible refine XDrop.desk (by assumption) ?_) | (with_reducible first | refine XArr.ints (by omega) (by omega) (by omega) ?_ | refine XArr.intsA (by omega) (by omega) (by omega) ?_) | ((with_reducible first | refine XArr.nats ?_ ?_ ?_ | refine XArr.natsA ?_ ?_ ?_ | refine XArr.ptr ?_ ?_ ?_); omega; omega)); conv => whnf) | ((with_reducible apply XBr.mk') <;> (intro h; conv => whnf))
          · conv => whnf
            repeat' first | ((with_reducible first | apply XBr.tt | apply XBr.ff | apply Chk.go | apply ChkA.go | apply ChkF.go | apply ChkB.go | apply XArr.pim0 | apply XArr.pim1); conv => whnf) | (with_reducible apply XBr.not) | ((with_reducible apply XBr.dec) <;> (intro h; first | (exfalso; omega) | ((try simp only [List.length_map] at h); first | (exfalso; omega) | (conv => whnf)))) | ((with_reducible first | apply XBr.beq | apply XBr.bne) <;> (intro h; first | (exfalso; omega) | (conv => whnf))) | ((with_reducible refine XInt.i64 (by omega) (by omega) ?_); conv => whnf) | ((with_reducible refine XHold.mk ?_ ?_); (first | omega | rfl | decide | exact ⟨rfl, by decide, rfl⟩ | exact wideI _ | exact widePr _ | exact wideSk _ | (unfold Room; constructor <;> ((try simp) <;> omega)) | exact ⟨rfl, by simp only [List.length_map], by unfold Room; constructor <;> ((try simp) <;> omega)⟩ | exact ⟨by omega, by omega, by unfold Room; constructor <;> ((try simp) <;> omega)⟩); conv => whnf) | ((first | ((with_reducible refine XIx.nat ?_ ?_ ?_); omega; (intro _; rfl)) | ((with_reducible refine XIx.map ?_ ?_ ?_ ?_); omega; omega; (intro _; rfl))); conv => whnf) | (with_reducible apply XAnd.mk) | (exact XSame.mk rfl rfl) | (exact XSame.mk (by first | rfl | (simp only [List.map_append, List.length_append, List.length_map]; done) | (simp only [List.map_append, List.length_append, List.length_map]; rfl)) (by first | rfl | (simp only [List.map_append]; done) | (simp only [List.map_append]; rfl))) | (with_reducible exact trivial) | ((first | (with_reducible refine xdrop_app (by rw [List.length_map]; omega) ?_) | (with_reducible refine XDrop.desk (by assumption) ?_) | (with_reducible first | refine XArr.ints (by omega) (by omega) (by omega) ?_ | refine XArr.intsA (by omega) (by omega) (by omega) ?_) | ((with_reducible first | refine XArr.nats ?_ ?_ ?_ | refine XArr.natsA ?_ ?_ ?_ | refine XArr.ptr ?_ ?_ ?_); omega; omega)); conv => whnf) | ((with_reducible apply XBr.mk') <;> (intro h; conv => whnf))
            exact XAgain.go (k + 1) (by omega) (by omega) rfl ⟨rfl, rfl, rfl, rfl, rfl, rfl, rfl, rfl, rfl, trivial⟩
        · have hke : k = 2 ^ i := by omega
          refine XAgainG.go (i + 1) [.cells [.int .i64 s.m, .int .i64 s.o]] (by omega) (by omega) ?_ ⟨rfl, rfl, rfl, rfl, rfl, trivial⟩
          subst hke
          rw [show 2 ^ (i + 1) = 2 ^ i + 2 ^ i by rw [Nat.pow_succ]; omega]; rfl
    · have hie : i = l.sacks.length := by omega
      subst hie
      clear hi h g
      have hfin : openR l = .tup [.pim (deskC ⟨l, hvF (wts l) (2 ^ l.sacks.length), closeF l 5000 (ndI l.sacks.length)⟩), .int .i64 0] := by
        unfold openR; rw [if_pos ((checkR_ok l).2 ok)]; rfl
      have hl := hvF_len (wts l) (2 ^ l.sacks.length)
      have bl := ndI_len l.sacks.length
      have bs := ndI_small l.sacks.length
      generalize hvF (wts l) (2 ^ l.sacks.length) = hv at hl hfin ⊢
      generalize ndI l.sacks.length = b0 at bl bs hfin ⊢
      have hwp : ∀ p ∈ l.wth, 0 ≤ p.1 ∧ p.1 < 9 ∧ 0 ≤ p.2 ∧ p.2 < 9 := fun p hp => by have := ok.wp p hp; have := ok.n; omega
      have jl := joinR_len l b0
      generalize hcl : closeF l 5000 b0 = res at hfin
      apply Walk.drawX tab_ok mixed_ok [] [6, 7] (hsC [[.cells (deskC ⟨l, hv, b0⟩)], [.cells (deskC ⟨l, hv, b0⟩), .cells (nats (List.replicate 9 0))], [.cells (deskC ⟨l, hv, b0⟩), .cells (nats (joinR l b0))]])
        [_, _, _, _, .agg (nats b0), .agg (nats (joinR l b0)), _, _] (by kernel_rfl) rfl
      · skip
        repeat' first | ((with_reducible first | apply XBr.tt | apply XBr.ff | apply Chk.go | apply ChkA.go | apply ChkF.go | apply ChkB.go | apply XArr.pim0 | apply XArr.pim1); conv => whnf) | (with_reducible apply XBr.not) | ((with_reducible apply XBr.dec) <;> (intro h; first | (exfalso; omega) | ((try simp only [List.length_map] at h); first | (exfalso; omega) | (conv => whnf)))) | ((with_reducible first | apply XBr.beq | apply XBr.bne) <;> (intro h; first | (exfalso; omega) | (conv => whnf))) | ((with_reducible refine XInt.i64 (by omega) (by omega) ?_); conv => whnf) | ((with_reducible refine XHold.mk ?_ ?_); (first | omega | rfl | decide | exact ⟨rfl, by decide, rfl⟩ | exact wideI _ | exact widePr _ | exact wideSk _ | (unfold Room; constructor <;> ((try simp) <;> omega)) | exact ⟨rfl, by simp only [List.length_map], by unfold Room; constructor <;> ((try simp) <;> omega)⟩ | exact ⟨by omega, by omega, by unfold Room; constructor <;> ((try simp) <;> omega)⟩); conv => whnf) | ((first | ((with_reducible refine XIx.nat ?_ ?_ ?_); omega; (intro _; rfl)) | ((with_reducible refine XIx.map ?_ ?_ ?_ ?_); omega; omega; (intro _; rfl))); conv => whnf) | (with_reducible apply XAnd.mk) | (exact XSame.mk rfl rfl) | (exact XSame.mk (by first | rfl | (simp only [List.map_append, List.length_append, List.length_map]; done) | (simp only [List.map_append, List.length_append, List.length_map]; rfl)) (by first | rfl | (simp only [List.map_append]; done) | (simp only [List.map_append]; rfl))) | (with_reducible exact trivial) | ((first | (with_reducible refine xdrop_app (by rw [List.length_map]; omega) ?_) | (with_reducible refine XDrop.desk (by assumption) ?_) | (with_reducible first | refine XArr.ints (by omega) (by omega) (by omega) ?_ | refine XArr.intsA (by omega) (by omega) (by omega) ?_) | ((with_reducible first | refine XArr.nats ?_ ?_ ?_ | refine XArr.natsA ?_ ?_ ?_ | refine XArr.ptr ?_ ?_ ?_); omega; omega) | (refine xdrop_dkN (d := ⟨l, hv, b0⟩) hl ?_) | (refine xtk_all (by rw [List.length_map]; exact bl) ?_) | (refine XCall.ret (joined_c l b0 bl bs ok.nw hwp) ?_) | (refine xn_all (by rw [List.length_map, jl]; exact bl) ?_) | (refine xspl_all (by rw [List.length_map, List.length_map, List.length_replicate]; omega) ?_)); conv => whnf) | ((with_reducible apply XBr.mk') <;> (intro h; conv => whnf))
      · skip
        repeat' first | ((with_reducible first | apply XBr.tt | apply XBr.ff | apply Chk.go | apply ChkA.go | apply ChkF.go | apply ChkB.go | apply XArr.pim0 | apply XArr.pim1); conv => whnf) | (with_reducible apply XBr.not) | ((with_reducible apply XBr.dec) <;> (intro h; first | (exfalso; omega) | ((try simp only [List.length_map] at h); first | (exfalso; omega) | (conv => whnf)))) | ((with_reducible first | apply XBr.beq | apply XBr.bne) <;> (intro h; first | (exfalso; omega) | (conv => whnf))) | ((with_reducible refine XInt.i64 (by omega) (by omega) ?_); conv => whnf) | ((with_reducible refine XHold.mk ?_ ?_); (first | omega | rfl | decide | exact ⟨rfl, by decide, rfl⟩ | exact wideI _ | exact widePr _ | exact wideSk _ | (unfold Room; constructor <;> ((try simp) <;> omega)) | exact ⟨rfl, by simp only [List.length_map], by unfold Room; constructor <;> ((try simp) <;> omega)⟩ | exact ⟨by omega, by omega, by unfold Room; constructor <;> ((try simp) <;> omega)⟩); conv => whnf) | ((first | ((with_reducible refine XIx.nat ?_ ?_ ?_); omega; (intro _; rfl)) | ((with_reducible refine XIx.map ?_ ?_ ?_ ?_); omega; omega; (intro _; rfl))); conv => whnf) | (with_reducible apply XAnd.mk) | (exact XSame.mk rfl rfl) | (exact XSame.mk (by first | rfl | (simp only [List.map_append, List.length_append, List.length_map]; done) | (simp only [List.map_append, List.length_append, List.length_map]; rfl)) (by first | rfl | (simp only [List.map_append]; done) | (simp only [List.map_append]; rfl))) | (with_reducible exact trivial) | ((first | (with_reducible refine xdrop_app (by rw [List.length_map]; omega) ?_) | (with_reducible refine XDrop.desk (by assumption) ?_) | (with_reducible first | refine XArr.ints (by omega) (by omega) (by omega) ?_ | refine XArr.intsA (by omega) (by omega) (by omega) ?_) | ((with_reducible first | refine XArr.nats ?_ ?_ ?_ | refine XArr.natsA ?_ ?_ ?_ | refine XArr.ptr ?_ ?_ ?_); omega; omega) | (refine xdrop_dkN (d := ⟨l, hv, b0⟩) hl ?_) | (refine xtk_all (by rw [List.length_map]; exact bl) ?_) | (refine XCall.ret (joined_c l b0 bl bs ok.nw hwp) ?_)); conv => whnf) | ((with_reducible apply XBr.mk') <;> (intro h; conv => whnf))
      · conv => whnf
        refine Walk.loopR tab_ok [] (fun g : Option (List Nat) × Nat × List Nat => g.2.2.length = 9 ∧ (∀ i, g.2.2.getD i 0 < 512) ∧ closeF l g.2.1 g.2.2 = res ∧ msr g.2.2 < g.2.1)
          (fun g => [(1, .pim (ldC l)), (5, .ptr 0 0), (9, .ptr (match g.1 with | none => 1 | some _ => 2) 0)])
          (fun g => match g.1 with | none => [.cells (deskC ⟨l, hv, g.2.2⟩), .cells (nats (joinR l g.2.2))] | some x => [.cells (deskC ⟨l, hv, g.2.2⟩), .cells (nats x), .cells (nats (joinR l g.2.2))])
          (fun g => g.2.1) (none, 5000, b0) 2 ⟨bl, bs, hcl, by have := msr_le b0 bl; dsimp only; omega⟩ rfl rfl ⟨rfl, rfl, rfl, trivial⟩ ?_
        rintro ⟨ph, n, b⟩ ⟨gl, gs, gc, gm⟩
        dsimp only at gl gs gc gm ⊢
        have jl := joinR_len l b
        have js := joinR_small l b gs
        have jl2 := joinR_len l (joinR l b)
        have hn : n = n - 1 + 1 := by omega
        have hge : joinR l b ≠ b → msr (joinR l b) < msr b := fun h => msr_lt _ _ jl.symm (joinR_ge l b) js (fun e => h e.symm)
        have hstep : joinR l b ≠ b → closeF l (n - 1) (joinR l b) = res := fun h => by
          have := closeF_step l (n - 1) b h
          rw [← hn] at this; rw [← this]; exact gc
        rcases ph with _ | x
        · skip
          conv => whnf
          apply Walk.drawX tab_ok mixed_ok [] [] (hsK _) [.agg (nats (joinR l b)), _, _, _, .agg (nats b), .bool (joinR l b != b)] (by kernel_rfl) rfl
          · skip
            repeat' first | ((with_reducible first | apply XBr.tt | apply XBr.ff | apply Chk.go | apply ChkA.go | apply ChkF.go | apply ChkB.go | apply XArr.pim0 | apply XArr.pim1); conv => whnf) | (with_reducible apply XBr.not) | ((with_reducible apply XBr.dec) <;> (intro h; first | (exfalso; omega) | ((try simp only [List.length_map] at h); first | (exfalso; omega) | (conv => whnf)))) | ((with_reducible first | apply XBr.beq | apply XBr.bne) <;> (intro h; first | (exfalso; omega) | (conv => whnf))) | ((with_reducible refine XInt.i64 (by omega) (by omega) ?_); conv => whnf) | ((with_reducible refine XHold.mk ?_ ?_); (first | omega | rfl | decide | exact ⟨rfl, by decide, rfl⟩ | exact wideI _ | exact widePr _ | exact wideSk _ | (unfold Room; constructor <;> ((try simp) <;> omega)) | exact ⟨rfl, by simp only [List.length_map], by unfold Room; constructor <;> ((try simp) <;> omega)⟩ | exact ⟨by omega, by omega, by unfold Room; constructor <;> ((try simp) <;> omega)⟩); conv => whnf) | ((first | ((with_reducible refine XIx.nat ?_ ?_ ?_); omega; (intro _; rfl)) | ((with_reducible refine XIx.map ?_ ?_ ?_ ?_); omega; omega; (intro _; rfl))); conv => whnf) | (with_reducible apply XAnd.mk) | (exact XSame.mk rfl rfl) | (exact XSame.mk (by first | rfl | (simp only [List.map_append, List.length_append, List.length_map]; done) | (simp only [List.map_append, List.length_append, List.length_map]; rfl)) (by first | rfl | (simp only [List.map_append]; done) | (simp only [List.map_append]; rfl))) | (with_reducible exact trivial) | ((first | (with_reducible refine xdrop_app (by rw [List.length_map]; omega) ?_) | (with_reducible refine XDrop.desk (by assumption) ?_) | (with_reducible first | refine XArr.ints (by omega) (by omega) (by omega) ?_ | refine XArr.intsA (by omega) (by omega) (by omega) ?_) | ((with_reducible first | refine XArr.nats ?_ ?_ ?_ | refine XArr.natsA ?_ ?_ ?_ | refine XArr.ptr ?_ ?_ ?_); omega; omega) | (refine xdrop_dkN (d := ⟨l, hv, b⟩) hl ?_) | (refine xtk_all (by rw [List.length_map]; first | exact gl | (rw [jl]; exact gl)) ?_)); conv => whnf) | ((with_reducible apply XBr.mk') <;> (intro h; conv => whnf))
            refine ⟨_, _, nats_ints _, nats_ints _, by simp [jl], by rw [List.length_map, jl, gl], ?_⟩
            exact XSame.mk (by rw [arr_eq]; rfl) rfl
          · skip
            repeat' first | ((with_reducible first | apply XBr.tt | apply XBr.ff | apply Chk.go | apply ChkA.go | apply ChkF.go | apply ChkB.go | apply XArr.pim0 | apply XArr.pim1); conv => whnf) | (with_reducible apply XBr.not) | ((with_reducible apply XBr.dec) <;> (intro h; first | (exfalso; omega) | ((try simp only [List.length_map] at h); first | (exfalso; omega) | (conv => whnf)))) | ((with_reducible first | apply XBr.beq | apply XBr.bne) <;> (intro h; first | (exfalso; omega) | (conv => whnf))) | ((with_reducible refine XInt.i64 (by omega) (by omega) ?_); conv => whnf) | ((with_reducible refine XHold.mk ?_ ?_); (first | omega | rfl | decide | exact ⟨rfl, by decide, rfl⟩ | exact wideI _ | exact widePr _ | exact wideSk _ | (unfold Room; constructor <;> ((try simp) <;> omega)) | exact ⟨rfl, by simp only [List.length_map], by unfold Room; constructor <;> ((try simp) <;> omega)⟩ | exact ⟨by omega, by omega, by unfold Room; constructor <;> ((try simp) <;> omega)⟩); conv => whnf) | ((first | ((with_reducible refine XIx.nat ?_ ?_ ?_); omega; (intro _; rfl)) | ((with_reducible refine XIx.map ?_ ?_ ?_ ?_); omega; omega; (intro _; rfl))); conv => whnf) | (with_reducible apply XAnd.mk) | (exact XSame.mk rfl rfl) | (exact XSame.mk (by first | rfl | (simp only [List.map_append, List.length_append, List.length_map]; done) | (simp only [List.map_append, List.length_append, List.length_map]; rfl)) (by first | rfl | (simp only [List.map_append]; done) | (simp only [List.map_append]; rfl))) | (with_reducible exact trivial) | ((first | (with_reducible refine xdrop_app (by rw [List.length_map]; omega) ?_) | (with_reducible refine XDrop.desk (by assumption) ?_) | (with_reducible first | refine XArr.ints (by omega) (by omega) (by omega) ?_ | refine XArr.intsA (by omega) (by omega) (by omega) ?_) | ((with_reducible first | refine XArr.nats ?_ ?_ ?_ | refine XArr.natsA ?_ ?_ ?_ | refine XArr.ptr ?_ ?_ ?_); omega; omega)); conv => whnf) | ((with_reducible apply XBr.mk') <;> (intro h; conv => whnf))
          · conv => whnf
            repeat' first | ((with_reducible first | apply XBr.tt | apply XBr.ff | apply Chk.go | apply ChkA.go | apply ChkF.go | apply ChkB.go | apply XArr.pim0 | apply XArr.pim1); conv => whnf) | (with_reducible apply XBr.not) | ((with_reducible apply XBr.dec) <;> (intro h; first | (exfalso; omega) | ((try simp only [List.length_map] at h); first | (exfalso; omega) | (conv => whnf)))) | ((with_reducible first | apply XBr.beq | apply XBr.bne) <;> (intro h; first | (exfalso; omega) | (conv => whnf))) | ((with_reducible refine XInt.i64 (by omega) (by omega) ?_); conv => whnf) | ((with_reducible refine XHold.mk ?_ ?_); (first | omega | rfl | decide | exact ⟨rfl, by decide, rfl⟩ | exact wideI _ | exact widePr _ | exact wideSk _ | (unfold Room; constructor <;> ((try simp) <;> omega)) | exact ⟨rfl, by simp only [List.length_map], by unfold Room; constructor <;> ((try simp) <;> omega)⟩ | exact ⟨by omega, by omega, by unfold Room; constructor <;> ((try simp) <;> omega)⟩); conv => whnf) | ((first | ((with_reducible refine XIx.nat ?_ ?_ ?_); omega; (intro _; rfl)) | ((with_reducible refine XIx.map ?_ ?_ ?_ ?_); omega; omega; (intro _; rfl))); conv => whnf) | (with_reducible apply XAnd.mk) | (exact XSame.mk rfl rfl) | (exact XSame.mk (by first | rfl | (simp only [List.map_append, List.length_append, List.length_map]; done) | (simp only [List.map_append, List.length_append, List.length_map]; rfl)) (by first | rfl | (simp only [List.map_append]; done) | (simp only [List.map_append]; rfl))) | (with_reducible exact trivial) | ((first | (with_reducible refine xdrop_app (by rw [List.length_map]; omega) ?_) | (with_reducible refine XDrop.desk (by assumption) ?_) | (with_reducible first | refine XArr.ints (by omega) (by omega) (by omega) ?_ | refine XArr.intsA (by omega) (by omega) (by omega) ?_) | ((with_reducible first | refine XArr.nats ?_ ?_ ?_ | refine XArr.natsA ?_ ?_ ?_ | refine XArr.ptr ?_ ?_ ?_); omega; omega) | (refine xtk_all (by rw [List.length_map]; first | exact gl | (rw [jl]; exact gl)) ?_) | ((refine xn_all (by rw [List.length_map]; first | (rw [jl]; exact gl) | (rw [jl2, jl]; exact gl)) ?_); (first | (refine xspl_dkA (d := ⟨l, hv, b⟩) hl gl (by rw [jl]; exact gl) ?_) | skip)) | (refine xspl_all (by simp [jl2, jl, gl]) ?_) | (refine XCall.ret (joined_c l (joinR l b) (by rw [jl]; exact gl) js ok.nw hwp) ?_)); conv => whnf) | ((with_reducible apply XBr.mk') <;> (intro h; conv => whnf))
            · have hne : joinR l b ≠ b := by simpa using h
              have := hge hne
              have := hstep hne
              exact XAgainR.go (some (joinR l b), n - 1, joinR l b) [0, 1, 2] ⟨by dsimp only; omega, js, this, by dsimp only; omega⟩ (by dsimp only; omega) ⟨rfl, by decide, fun i hi => by rcases i with _ | _ | i <;> first | rfl | (exfalso; omega), by decide⟩
                (fun x hx => by simp at hx; rcases hx with rfl | rfl | rfl <;> first | exact lowDk _ | exact lowN _)
                (fun i x hi hx => by rcases i with _ | _ | i <;> first | (cases hx; first | exact lowDk _ | exact lowN _) | (exfalso; omega))
                ⟨.inl ⟨rfl, lowDk _⟩, .inl ⟨rfl, lowN _⟩, .inl ⟨rfl, lowN _⟩, trivial⟩
                ⟨⟨.inl ⟨rfl, lowLd _⟩, lowLd _⟩, ⟨.inl ⟨rfl, rfl⟩, rfl⟩, ⟨.inr rfl, rfl⟩, trivial⟩
            · have he : joinR l b = b := by simpa using h
              rw [closeF_stop _ _ _ he] at gc
              rw [← gc] at hfin
              rw [hfin]
              exact ⟨Froz.tup (.cons (Froz.ptr rfl (lowOne (d := ⟨l, hv, b⟩)) (FrozL.low (lowDk _))) (.cons (Froz.low rfl) .nil))⟩
        · skip
          conv => whnf
          apply Walk.drawX tab_ok mixed_ok [] [] (hsK _) [.agg (nats (joinR l b)), _, _, _, .agg (nats b), .bool (joinR l b != b)] (by kernel_rfl) rfl
          · skip
            repeat' first | ((with_reducible first | apply XBr.tt | apply XBr.ff | apply Chk.go | apply ChkA.go | apply ChkF.go | apply ChkB.go | apply XArr.pim0 | apply XArr.pim1); conv => whnf) | (with_reducible apply XBr.not) | ((with_reducible apply XBr.dec) <;> (intro h; first | (exfalso; omega) | ((try simp only [List.length_map] at h); first | (exfalso; omega) | (conv => whnf)))) | ((with_reducible first | apply XBr.beq | apply XBr.bne) <;> (intro h; first | (exfalso; omega) | (conv => whnf))) | ((with_reducible refine XInt.i64 (by omega) (by omega) ?_); conv => whnf) | ((with_reducible refine XHold.mk ?_ ?_); (first | omega | rfl | decide | exact ⟨rfl, by decide, rfl⟩ | exact wideI _ | exact widePr _ | exact wideSk _ | (unfold Room; constructor <;> ((try simp) <;> omega)) | exact ⟨rfl, by simp only [List.length_map], by unfold Room; constructor <;> ((try simp) <;> omega)⟩ | exact ⟨by omega, by omega, by unfold Room; constructor <;> ((try simp) <;> omega)⟩); conv => whnf) | ((first | ((with_reducible refine XIx.nat ?_ ?_ ?_); omega; (intro _; rfl)) | ((with_reducible refine XIx.map ?_ ?_ ?_ ?_); omega; omega; (intro _; rfl))); conv => whnf) | (with_reducible apply XAnd.mk) | (exact XSame.mk rfl rfl) | (exact XSame.mk (by first | rfl | (simp only [List.map_append, List.length_append, List.length_map]; done) | (simp only [List.map_append, List.length_append, List.length_map]; rfl)) (by first | rfl | (simp only [List.map_append]; done) | (simp only [List.map_append]; rfl))) | (with_reducible exact trivial) | ((first | (with_reducible refine xdrop_app (by rw [List.length_map]; omega) ?_) | (with_reducible refine XDrop.desk (by assumption) ?_) | (with_reducible first | refine XArr.ints (by omega) (by omega) (by omega) ?_ | refine XArr.intsA (by omega) (by omega) (by omega) ?_) | ((with_reducible first | refine XArr.nats ?_ ?_ ?_ | refine XArr.natsA ?_ ?_ ?_ | refine XArr.ptr ?_ ?_ ?_); omega; omega) | (refine xdrop_dkN (d := ⟨l, hv, b⟩) hl ?_) | (refine xtk_all (by rw [List.length_map]; first | exact gl | (rw [jl]; exact gl)) ?_)); conv => whnf) | ((with_reducible apply XBr.mk') <;> (intro h; conv => whnf))
            refine ⟨_, _, nats_ints _, nats_ints _, by simp [jl], by rw [List.length_map, jl, gl], ?_⟩
            exact XSame.mk (by rw [arr_eq]; rfl) rfl
          · skip
            repeat' first | ((with_reducible first | apply XBr.tt | apply XBr.ff | apply Chk.go | apply ChkA.go | apply ChkF.go | apply ChkB.go | apply XArr.pim0 | apply XArr.pim1); conv => whnf) | (with_reducible apply XBr.not) | ((with_reducible apply XBr.dec) <;> (intro h; first | (exfalso; omega) | ((try simp only [List.length_map] at h); first | (exfalso; omega) | (conv => whnf)))) | ((with_reducible first | apply XBr.beq | apply XBr.bne) <;> (intro h; first | (exfalso; omega) | (conv => whnf))) | ((with_reducible refine XInt.i64 (by omega) (by omega) ?_); conv => whnf) | ((with_reducible refine XHold.mk ?_ ?_); (first | omega | rfl | decide | exact ⟨rfl, by decide, rfl⟩ | exact wideI _ | exact widePr _ | exact wideSk _ | (unfold Room; constructor <;> ((try simp) <;> omega)) | exact ⟨rfl, by simp only [List.length_map], by unfold Room; constructor <;> ((try simp) <;> omega)⟩ | exact ⟨by omega, by omega, by unfold Room; constructor <;> ((try simp) <;> omega)⟩); conv => whnf) | ((first | ((with_reducible refine XIx.nat ?_ ?_ ?_); omega; (intro _; rfl)) | ((with_reducible refine XIx.map ?_ ?_ ?_ ?_); omega; omega; (intro _; rfl))); conv => whnf) | (with_reducible apply XAnd.mk) | (exact XSame.mk rfl rfl) | (exact XSame.mk (by first | rfl | (simp only [List.map_append, List.length_append, List.length_map]; done) | (simp only [List.map_append, List.length_append, List.length_map]; rfl)) (by first | rfl | (simp only [List.map_append]; done) | (simp only [List.map_append]; rfl))) | (with_reducible exact trivial) | ((first | (with_reducible refine xdrop_app (by rw [List.length_map]; omega) ?_) | (with_reducible refine XDrop.desk (by assumption) ?_) | (with_reducible first | refine XArr.ints (by omega) (by omega) (by omega) ?_ | refine XArr.intsA (by omega) (by omega) (by omega) ?_) | ((with_reducible first | refine XArr.nats ?_ ?_ ?_ | refine XArr.natsA ?_ ?_ ?_ | refine XArr.ptr ?_ ?_ ?_); omega; omega)); conv => whnf) | ((with_reducible apply XBr.mk') <;> (intro h; conv => whnf))
          · conv => whnf
            repeat' first | ((with_reducible first | apply XBr.tt | apply XBr.ff | apply Chk.go | apply ChkA.go | apply ChkF.go | apply ChkB.go | apply XArr.pim0 | apply XArr.pim1); conv => whnf) | (with_reducible apply XBr.not) | ((with_reducible apply XBr.dec) <;> (intro h; first | (exfalso; omega) | ((try simp only [List.length_map] at h); first | (exfalso; omega) | (conv => whnf)))) | ((with_reducible first | apply XBr.beq | apply XBr.bne) <;> (intro h; first | (exfalso; omega) | (conv => whnf))) | ((with_reducible refine XInt.i64 (by omega) (by omega) ?_); conv => whnf) | ((with_reducible refine XHold.mk ?_ ?_); (first | omega | rfl | decide | exact ⟨rfl, by decide, rfl⟩ | exact wideI _ | exact widePr _ | exact wideSk _ | (unfold Room; constructor <;> ((try simp) <;> omega)) | exact ⟨rfl, by simp only [List.length_map], by unfold Room; constructor <;> ((try simp) <;> omega)⟩ | exact ⟨by omega, by omega, by unfold Room; constructor <;> ((try simp) <;> omega)⟩); conv => whnf) | ((first | ((with_reducible refine XIx.nat ?_ ?_ ?_); omega; (intro _; rfl)) | ((with_reducible refine XIx.map ?_ ?_ ?_ ?_); omega; omega; (intro _; rfl))); conv => whnf) | (with_reducible apply XAnd.mk) | (exact XSame.mk rfl rfl) | (exact XSame.mk (by first | rfl | (simp only [List.map_append, List.length_append, List.length_map]; done) | (simp only [List.map_append, List.length_append, List.length_map]; rfl)) (by first | rfl | (simp only [List.map_append]; done) | (simp only [List.map_append]; rfl))) | (with_reducible exact trivial) | ((first | (with_reducible refine xdrop_app (by rw [List.length_map]; omega) ?_) | (with_reducible refine XDrop.desk (by assumption) ?_) | (with_reducible first | refine XArr.ints (by omega) (by omega) (by omega) ?_ | refine XArr.intsA (by omega) (by omega) (by omega) ?_) | ((with_reducible first | refine XArr.nats ?_ ?_ ?_ | refine XArr.natsA ?_ ?_ ?_ | refine XArr.ptr ?_ ?_ ?_); omega; omega) | (refine xtk_all (by rw [List.length_map]; first | exact gl | (rw [jl]; exact gl)) ?_) | ((refine xn_all (by rw [List.length_map]; first | (rw [jl]; exact gl) | (rw [jl2, jl]; exact gl)) ?_); (first | (refine xspl_dkA (d := ⟨l, hv, b⟩) hl gl (by rw [jl]; exact gl) ?_) | skip)) | (refine xspl_all (by simp [jl2, jl, gl]) ?_) | (refine XCall.ret (joined_c l (joinR l b) (by rw [jl]; exact gl) js ok.nw hwp) ?_)); conv => whnf) | ((with_reducible apply XBr.mk') <;> (intro h; conv => whnf))
            · have hne : joinR l b ≠ b := by simpa using h
              have := hge hne
              have := hstep hne
              exact XAgainR.go (some x, n - 1, joinR l b) [0, 1, 3] ⟨by dsimp only; omega, js, this, by dsimp only; omega⟩ (by dsimp only; omega) ⟨rfl, by decide, fun i hi => by rcases i with _ | _ | i <;> first | rfl | (exfalso; omega), by decide⟩
                (fun x hx => by simp at hx; rcases hx with rfl | rfl | rfl <;> first | exact lowDk _ | exact lowN _)
                (fun i x hi hx => by rcases i with _ | _ | i <;> first | (cases hx; first | exact lowDk _ | exact lowN _) | (exfalso; omega))
                ⟨.inl ⟨rfl, lowDk _⟩, .inl ⟨rfl, lowN _⟩, .inl ⟨rfl, lowN _⟩, trivial⟩
                ⟨⟨.inl ⟨rfl, lowLd _⟩, lowLd _⟩, ⟨.inl ⟨rfl, rfl⟩, rfl⟩, ⟨.inr rfl, rfl⟩, trivial⟩
            · have he : joinR l b = b := by simpa using h
              rw [closeF_stop _ _ _ he] at gc
              rw [← gc] at hfin
              rw [hfin]
              exact ⟨Froz.tup (.cons (Froz.ptr rfl (lowOne (d := ⟨l, hv, b⟩)) (FrozL.low (lowDk _))) (.cons (Froz.low rfl) .nil))⟩
end GA
end

section
namespace GA
open Go Go.RowKit
set_option linter.unusedVariables false

def hsV (H : List Blk) (l : List (List Blk → List Blk)) (fl : List Bool) : List Blk := match lget l (fl.countP id) with | some f => f H | none => H
def hsW (H : List Blk) (l : List (List Blk → List Blk)) (fl : List Bool) : List Blk := match lget l (bin fl) with | some f => f H | none => H
def look (n : Int) : List (Int × Nat) → Option Nat
  | [] => none
  | (k, u) :: l => if k = n then some u else look n l
def putm (n : Int) (v : Nat) : List (Int × Nat) → List (Int × Nat)
  | [] => [(n, v)]
  | (k, u) :: l => if k = n then (k, v) :: l else (k, u) :: putm n v l
def esA (m : List (Int × Nat)) : List (Int × AV) := m.map fun p => (p.1, .int .i64 p.2)
theorem mget_esA (n : Int) : ∀ m : List (Int × Nat), mget n (esA m) = (look n m).map fun v : Nat => AV.int .i64 v
  | [] => rfl
  | (k, u) :: l => by
    have := mget_esA n l
    simp only [esA, List.map_cons, mget, look] at this ⊢
    split
    · rfl
    · exact this
theorem mput_esA (n : Int) (v : Nat) : ∀ m : List (Int × Nat), mput n (.int .i64 v) (esA m) = esA (putm n v m)
  | [] => rfl
  | (k, u) :: l => by
    have := mput_esA n v l
    simp only [esA, List.map_cons, mput, putm] at this ⊢
    split
    · rfl
    · simp only [List.map_cons, this]
theorem look_put (n k : Int) (v : Nat) : ∀ m : List (Int × Nat), look k (putm n v m) = if k = n then some v else look k m
  | [] => by simp only [putm, look]; split <;> split <;> simp_all
  | (j, u) :: l => by
    have := look_put n k v l
    simp only [putm]
    split
    · rename_i e
      subst e
      simp only [look]
      split
      · rename_i e; rw [if_pos e.symm]
      · rename_i e; rw [if_neg (fun h => e h.symm)]
    · rename_i e
      simp only [look]
      split
      · rename_i e2; subst e2; rw [if_neg e]
      · exact this
theorem low_esA {n : Nat} (m : List (Int × Nat)) : (Blk.map (esA m)).low n = true := by
  simp only [Blk.low, esA, List.map_map]
  exact lowL_iff.2 fun x hx => by obtain ⟨p, _, rfl⟩ := List.mem_map.1 hx; rfl
theorem ren_esA (f : Nat → Nat) (m : List (Int × Nat)) : (Blk.map (esA m)).ren f = .map (esA m) := Blk.ren_low (n := 0) (fun i hi => by omega) (low_esA m)
end GA
end

section
namespace GA
open Go Go.RowKit Go.Proofs
set_option pp.deepTerms true
set_option maxRecDepth 8000
set_option linter.unusedVariables false
set_option linter.unusedSimpArgs false

theorem IterOk.run {P : Program} {i : Nat} {H : List Blk} {K : List Blk → Prop} {S : Type} (upd : List Blk → S → List Blk) (step : S → Nat → S) (I : S → List Nat → Prop)
    (x : ∀ s c cs, I s (c :: cs) → XYield P i [natA c] (upd H s) (fun r H' => r = .bool true ∧ H' = upd H (step s c)) ∧ I (step s c) cs) :
    ∀ (cs : List Nat) (s : S), I s cs → K (upd H (cs.foldl step s)) → IterOk P i K cs (upd H s)
  | [], s, _, hk => hk
  | c :: cs, s, hI, hk => by
    obtain ⟨h1, h2⟩ := x s c cs hI
    refine ⟨AYield.mono h1.o ?_⟩
    rintro r H' ⟨rfl, rfl⟩
    exact .inl ⟨rfl, IterOk.run upd step I x cs _ h2 hk⟩
theorem IterOk.go {P : Program} {i : Nat} {H : List Blk} {K : List Blk → Prop} {S : Type} {cs : List Nat} (upd : List Blk → S → List Blk) (step : S → Nat → S) (I : S → List Nat → Prop) (s0 : S) (hH : upd H s0 = H)
    (x : ∀ s c cs, I s (c :: cs) → XYield P i [natA c] (upd H s) (fun r H' => r = .bool true ∧ H' = upd H (step s c)) ∧ I (step s c) cs) (hI : I s0 cs) (hk : K (upd H (cs.foldl step s0))) : IterOk P i K cs H := by
  have := IterOk.run upd step I x cs s0 hI hk
  rwa [hH] at this
def ofM (d : Dk) : Nat → Nat → List (Int × Nat) → Nat × List (Int × Nat)
  | 0, _, m => (0, m)
  | f + 1, set, m => match look set m with
    | some v => (v, m)
    | none =>
      let r := (cartsL d set).foldl (fun (p : Nat × List (Int × Nat)) c => (min p.1 ((ofM d f (diff set c) p.2).1 + 1), (ofM d f (diff set c) p.2).2)) (10, m)
      (r.1, putm set r.1 r.2)
def ofStep (d : Dk) (f set : Nat) (p : Nat × List (Int × Nat)) (c : Nat) : Nat × List (Int × Nat) := (min p.1 ((ofM d f (diff set c) p.2).1 + 1), (ofM d f (diff set c) p.2).2)
theorem ofM_succ (d : Dk) (f set : Nat) (m : List (Int × Nat)) : ofM d (f + 1) set m = match look set m with
    | some v => (v, m)
    | none => (((cartsL d set).foldl (ofStep d f set) (10, m)).1, putm set ((cartsL d set).foldl (ofStep d f set) (10, m)).1 ((cartsL d set).foldl (ofStep d f set) (10, m)).2) := rfl

structure MOk (m : List (Int × Nat)) : Prop where
  z : look 0 m = some 0
  le : ∀ k v, look k m = some v → v ≤ 10
theorem ofM_ok (d : Dk) : ∀ (f set : Nat) (m : List (Int × Nat)), MOk m → (ofM d f set m).1 ≤ 10 ∧ MOk (ofM d f set m).2
  | 0, set, m, h => ⟨by simp [ofM], h⟩
  | f + 1, set, m, h => by
    rw [ofM_succ]
    cases hl : look (set : Int) m with
    | some v => exact ⟨h.le _ _ hl, h⟩
    | none =>
      have fold : ∀ (cs : List Nat) (p : Nat × List (Int × Nat)), p.1 ≤ 10 → MOk p.2 → (cs.foldl (ofStep d f set) p).1 ≤ 10 ∧ MOk (cs.foldl (ofStep d f set) p).2 := by
        intro cs
        induction cs with
        | nil => intro p h1 h2; exact ⟨h1, h2⟩
        | cons c cs ih =>
          intro p h1 h2
          rw [List.foldl_cons]
          obtain ⟨h3, h4⟩ := ofM_ok d f (diff set c) p.2 h2
          exact ih _ (by simp only [ofStep]; omega) h4
      obtain ⟨h1, h2⟩ := fold (cartsL d set) (10, m) (Nat.le_refl 10) h
      have hne : (0 : Int) ≠ set := fun e => by rw [← e, h.z] at hl; cases hl
      refine ⟨h1, by rw [look_put, if_neg hne]; exact h2.z, fun k v e => ?_⟩
      rw [look_put] at e
      split at e
      · cases e; exact h1
      · exact h2.le k v e
theorem diff_bit (a b i : Nat) : (diff a b).testBit i = (a.testBit i && !b.testBit i) := by
  unfold diff; simp only [Nat.testBit_xor, Nat.testBit_and]
  cases a.testBit i <;> cases b.testBit i <;> rfl
def Sub (a b : Nat) : Prop := ∀ i, a.testBit i = true → b.testBit i = true
theorem Sub.le {a b : Nat} (h : Sub a b) : a ≤ b := by
  have : a &&& b = a := by
    apply Nat.eq_of_testBit_eq; intro i; rw [Nat.testBit_and]
    cases e : a.testBit i
    · rfl
    · rw [h i e]; rfl
  rw [← this]; exact Nat.and_le_right
theorem lowb_sub (s : Nat) : Sub (lowb s) s := fun i h => by unfold lowb at h; rw [diff_bit, Bool.and_eq_true] at h; exact h.1
theorem lowb_pos_all : ∀ s : Fin 512, s.val ≠ 0 → lowb s.val ≠ 0 := by decide +kernel
theorem lowb_pos {s : Nat} (h0 : 0 < s) (h : s < 512) : lowb s ≠ 0 := lowb_pos_all ⟨s, h⟩ (by simp only; omega)
theorem cartsF_mem (d : Dk) (set : Nat) : ∀ (f rest : Nat), Sub rest (diff set (lowb set)) → ∀ c ∈ cartsF d set f rest, ∃ r, c = r ||| lowb set ∧ Sub r (diff set (lowb set)) ∧ rightB d c = true
  | 0, _, _, c, hc => by simp [cartsF] at hc
  | f + 1, rest, hr, c, hc => by
    rw [cartsF_succ, List.mem_append] at hc
    rcases hc with hc | hc
    · split at hc
      · rename_i h; simp only [List.mem_singleton] at hc; subst hc; exact ⟨rest, rfl, hr, h⟩
      · simp at hc
    · split at hc
      · simp at hc
      · refine cartsF_mem d set f _ (fun i hi => ?_) c hc
        rw [diff_bit, Nat.testBit_and, Bool.and_eq_true, Bool.and_eq_true] at hi
        rw [diff_bit, hi.1.2, hi.2]; rfl
theorem carts_sub (d : Dk) {set c : Nat} (hc : c ∈ cartsL d set) : Sub c set ∧ Sub (lowb set) c ∧ rightB d c = true := by
  obtain ⟨r, rfl, h1, h2⟩ := cartsF_mem d set 512 _ (fun i h => h) c hc
  refine ⟨fun i h => ?_, fun i h => by rw [Nat.testBit_or, h, Bool.or_true], h2⟩
  rw [Nat.testBit_or, Bool.or_eq_true] at h
  rcases h with h | h
  · have := h1 i h; rw [diff_bit, Bool.and_eq_true] at this; exact this.1
  · exact lowb_sub set i h
theorem diff_lt {set c : Nat} (h0 : 0 < set) (h9 : set < 512) (hl : Sub (lowb set) c) : diff set c < set := by
  have h1 := diff_le set c
  rcases Nat.lt_or_ge (diff set c) set with h | h
  · exact h
  · exfalso
    have he : diff set c = set := by omega
    apply lowb_pos h0 h9
    apply Nat.eq_of_testBit_eq; intro i
    rw [Nat.zero_testBit]
    cases hb : (lowb set).testBit i
    · rfl
    · have h2 := hl i hb
      have h3 := lowb_sub set i hb
      have h4 := diff_bit set c i
      rw [he, h2, h3] at h4; cases h4
theorem carts_lt (d : Dk) {set c : Nat} (hs : 0 < set) (h9 : set < 512) (hc : c ∈ cartsL d set) : diff set c < set ∧ c < 512 := by
  obtain ⟨h1, h2, _⟩ := carts_sub d hc
  exact ⟨diff_lt hs h9 h2, by have := h1.le; omega⟩

def ofC (d : Dk) (j : Nat) : AV := .fn 132 [.ptr (j + 1) 0, .pim [.pim (deskC d)], .ptr (j + 2) 0]
def ofH (d : Dk) (m : List (Int × Nat)) : List Blk := [.map (esA m), .cells [.mp 0], .cells [ofC d 0]]
def OfOk (d : Dk) (f set : Nat) (m : List (Int × Nat)) : Prop :=
  ACall Try.prog 132 [natA set, .ptr 1 0, .pim [.pim (deskC d)], .ptr 2 0] (ofH d m) fun r H' => r = natA (ofM d f set m).1 ∧ H' = ofH d (ofM d f set m).2
theorem ofH_low (d : Dk) (m : List (Int × Nat)) : ∀ x ∈ ofH d m, x.low 3 = true := by
  intro x hx
  simp only [ofH, List.mem_cons, List.not_mem_nil, or_false] at hx
  rcases hx with rfl | rfl | rfl
  · exact low_esA m
  · rfl
  · simp only [Blk.low, ofC, lowL, AV.low, lowDk]; rfl
theorem XCall.of {d : Dk} {f set : Nat} {m : List (Int × Nat)} (x : OfOk d f set m) {H : List Blk} {k : AV → List Blk → Prop} (j : Nat) (h0 : lget H j = some (.map (esA m))) (h1 : lget H (j + 1) = some (.cells [.mp j])) (h2 : lget H (j + 2) = some (.cells [ofC d j]))
    (hk : k (natA (ofM d f set m).1) (H.set j (.map (esA (ofM d f set m).2)))) : XCall Try.prog 132 [natA set, .ptr (j + 1) 0, .pim [.pim (deskC d)], .ptr (j + 2) 0] H k := by
  constructor
  have e := ACall.frame (ρ := fun i => j + i) (H := H) (k := k) x (fun a b _ _ h => by have : j + a = j + b := h; omega) ?_ (ofH_low d m) ?_ ?_
  · have hd : renL (fun i => j + i) (deskC d) = deskC d := renL_low0 (lowDk d)
    simp only [List.map_cons, List.map_nil, natA, AV.ren, renL, hd] at e
    exact e
  · intro i x1 hi
    rw [lget_eq] at h0 h1 h2
    rcases i with _ | _ | _ | i
    · simp only [ofH, List.getElem?_cons_zero, Option.some.injEq] at hi; subst hi
      rw [ren_esA]; exact h0
    · simp only [ofH, List.getElem?_cons_succ, List.getElem?_cons_zero, Option.some.injEq] at hi; subst hi
      exact h1
    · simp only [ofH, List.getElem?_cons_succ, List.getElem?_cons_zero, Option.some.injEq] at hi; subst hi
      simp only [Blk.ren, renL, ofC, AV.ren, renL_low0 (lowDk d)]
      exact h2
    · simp [ofH] at hi
  · simp only [ofH, List.length_cons, List.length_nil, lowL, AV.low, natA, lowDk]; rfl
  · rintro r1 H1' ⟨rfl, rfl⟩
    rw [lget_eq] at h0 h1 h2
    have hj := (List.getElem?_eq_some_iff.1 h0).1
    refine ⟨rfl, H.set j (.map (esA (ofM d f set m).2)), by simp, fun i x1 hi => ?_, fun q hq => ?_, hk⟩
    · rcases i with _ | _ | _ | i
      · simp only [ofH, List.getElem?_cons_zero, Option.some.injEq] at hi; subst hi
        rw [ren_esA]; simp [hj]
      · simp only [ofH, List.getElem?_cons_succ, List.getElem?_cons_zero, Option.some.injEq] at hi; subst hi
        rw [List.getElem?_set_ne (by simp)]; exact h1
      · simp only [ofH, List.getElem?_cons_succ, List.getElem?_cons_zero, Option.some.injEq] at hi; subst hi
        rw [List.getElem?_set_ne (by simp)]
        simp only [Blk.ren, renL, ofC, AV.ren, renL_low0 (lowDk d)]
        exact h2
      · simp [ofH] at hi
    · exact List.getElem?_set_ne (by have := hq 0 (by simp [ofH]); simpa using this)

theorem of_c (d : Dk) (ok : DkFull d) : ∀ (f set : Nat) (m : List (Int × Nat)), set < f → set < 512 → MOk m → OfOk d f set m
  | 0, set, m, hf, _, _ => by omega
  | f + 1, set, m, hf, hs, hM => by
    have h0 := hM.z
    unfold OfOk
    refine ACall.bodyK (T := tab) (res := [.tmp 5]) tab_ok [] Try.func132 rfl (by kernel_rfl) Try.ntmps132 rfl (by simp only [List.length_cons, List.length_nil]; decide) ?_; conv => whnf
    constructor
    rw [mget_esA]
    cases hl : look (set : Int) m with
    | some v =>
      conv => whnf
      repeat' first | ((with_reducible first | apply XBr.tt | apply XBr.ff | apply Chk.go | apply ChkA.go | apply ChkF.go | apply ChkB.go | apply XArr.pim0 | apply XArr.pim1); conv => whnf) | (with_reducible apply XBr.not) | ((with_reducible apply XBr.dec) <;> (intro h; first | (exfalso; omega) | ((try simp only [List.length_map] at h); first | (exfalso; omega) | (conv => whnf)))) | ((with_reducible first | apply XBr.beq | apply XBr.bne) <;> (intro h; first | (exfalso; omega) | (conv => whnf))) | ((with_reducible refine XInt.i64 (by omega) (by omega) ?_); conv => whnf) | ((with_reducible refine XHold.mk ?_ ?_); (first | omega | rfl | decide | exact ⟨rfl, by decide, rfl⟩ | exact wideI _ | exact widePr _ | exact wideSk _ | (unfold Room; constructor <;> ((try simp) <;> omega)) | exact ⟨rfl, by simp only [List.length_map], by unfold Room; constructor <;> ((try simp) <;> omega)⟩ | exact ⟨by omega, by omega, by unfold Room; constructor <;> ((try simp) <;> omega)⟩); conv => whnf) | ((first | ((with_reducible refine XIx.nat ?_ ?_ ?_); omega; (intro _; rfl)) | ((with_reducible refine XIx.map ?_ ?_ ?_ ?_); omega; omega; (intro _; rfl))); conv => whnf) | (with_reducible apply XAnd.mk) | (exact XSame.mk rfl rfl) | (exact XSame.mk (by first | rfl | (simp only [List.map_append, List.length_append, List.length_map]; done) | (simp only [List.map_append, List.length_append, List.length_map]; rfl)) (by first | rfl | (simp only [List.map_append]; done) | (simp only [List.map_append]; rfl))) | (with_reducible exact trivial) | ((first | (with_reducible refine xdrop_app (by rw [List.length_map]; omega) ?_) | (with_reducible refine XDrop.desk (by assumption) ?_) | (with_reducible first | refine XArr.ints (by omega) (by omega) (by omega) ?_ | refine XArr.intsA (by omega) (by omega) (by omega) ?_) | ((with_reducible first | refine XArr.nats ?_ ?_ ?_ | refine XArr.natsA ?_ ?_ ?_ | refine XArr.ptr ?_ ?_ ?_); omega; omega)); conv => whnf) | ((with_reducible apply XBr.mk') <;> (intro h; conv => whnf))
      refine XCut.mk' (ofH d m) [.cells [natA v]] rfl rfl (ofH_low d m) rfl ?_
      rw [ofM_succ, hl]; exact ⟨rfl, rfl⟩
    | none =>
      conv => whnf
      repeat' first | ((with_reducible first | apply XBr.tt | apply XBr.ff | apply Chk.go | apply ChkA.go | apply ChkF.go | apply ChkB.go | apply XArr.pim0 | apply XArr.pim1); conv => whnf) | (with_reducible apply XBr.not) | ((with_reducible apply XBr.dec) <;> (intro h; first | (exfalso; omega) | ((try simp only [List.length_map] at h); first | (exfalso; omega) | (conv => whnf)))) | ((with_reducible first | apply XBr.beq | apply XBr.bne) <;> (intro h; first | (exfalso; omega) | (conv => whnf))) | ((with_reducible refine XInt.i64 (by omega) (by omega) ?_); conv => whnf) | ((with_reducible refine XHold.mk ?_ ?_); (first | omega | rfl | decide | exact ⟨rfl, by decide, rfl⟩ | exact wideI _ | exact widePr _ | exact wideSk _ | (unfold Room; constructor <;> ((try simp) <;> omega)) | exact ⟨rfl, by simp only [List.length_map], by unfold Room; constructor <;> ((try simp) <;> omega)⟩ | exact ⟨by omega, by omega, by unfold Room; constructor <;> ((try simp) <;> omega)⟩); conv => whnf) | ((first | ((with_reducible refine XIx.nat ?_ ?_ ?_); omega; (intro _; rfl)) | ((with_reducible refine XIx.map ?_ ?_ ?_ ?_); omega; omega; (intro _; rfl))); conv => whnf) | (with_reducible apply XAnd.mk) | (exact XSame.mk rfl rfl) | (exact XSame.mk (by first | rfl | (simp only [List.map_append, List.length_append, List.length_map]; done) | (simp only [List.map_append, List.length_append, List.length_map]; rfl)) (by first | rfl | (simp only [List.map_append]; done) | (simp only [List.map_append]; rfl))) | (with_reducible exact trivial) | ((first | (with_reducible refine xdrop_app (by rw [List.length_map]; omega) ?_) | (with_reducible refine XDrop.desk (by assumption) ?_) | (with_reducible first | refine XArr.ints (by omega) (by omega) (by omega) ?_ | refine XArr.intsA (by omega) (by omega) (by omega) ?_) | ((with_reducible first | refine XArr.nats ?_ ?_ ?_ | refine XArr.natsA ?_ ?_ ?_ | refine XArr.ptr ?_ ?_ ?_); omega; omega)); conv => whnf) | ((with_reducible apply XBr.mk') <;> (intro h; conv => whnf))
      refine XCall.ret (carts_c d set) ?_
      conv => whnf
      refine Walk.range (own := []) tab_ok [(3, .ptr 2 0), (4, .pim [natA set]), (6, .ptr 3 0)] rfl ⟨rfl, rfl, rfl, trivial⟩ ?_
      intro fn
      refine carts1_c d ok set 5 hs _ _ ?_
      have hpos : 0 < set := by
        rcases Nat.eq_zero_or_pos set with e | e
        · subst e; rw [show ((0 : Nat) : Int) = 0 from rfl, h0] at hl; cases hl
        · exact e
      refine IterOk.go (S := Nat × List (Int × Nat)) (fun H s => (H.set 0 (.map (esA s.2))).set 3 (.cells [natA s.1])) (ofStep d f set) (fun s cs => s.1 ≤ 10 ∧ MOk s.2 ∧ ∀ c ∈ cs, diff set c < set ∧ c < 512) (10, m) rfl ?_ ⟨Nat.le_refl 10, hM, fun c hc => carts_lt d hpos hs hc⟩ ?_
      · rintro ⟨n, m'⟩ c cs ⟨g0, g1, g2⟩
        dsimp only at g0 g1 g2 ⊢
        have hc := (g2 c List.mem_cons_self).1
        have hc512 : c < 9223372036854775808 := by have := (g2 c List.mem_cons_self).2; omega
        refine ⟨XYield.go (own := []) tab_ok rfl rfl (by decide) ?_, ?_⟩
        · intro ρ
          conv => whnf
          have e1 : iandn .i64 (set : Int) (c : Int) = ((diff set c : Nat) : Int) := iandn_nat (by omega) hc512
          have hof := of_c d ok f (diff set c) m' (by omega) (by omega) g1
          obtain ⟨q1, q2⟩ := ofM_ok d f (diff set c) m' g1
          generalize hq : ofM d f (diff set c) m' = q at q1 q2
          apply Walk.drawX tab_ok mixed_ok [] [5, 8] (hsV _ [id, fun H => H.set 0 (.map (esA q.2)), fun H => (H.set 0 (.map (esA q.2))).set 3 (.cells [natA (min n (q.1 + 1))])])
            [natA n, ofC d 0, natA set, natA c, natA (diff set c), natA q.1, natA (q.1 + 1), natA (min n (q.1 + 1)), _] (by kernel_rfl) rfl
          · skip
            repeat' first | ((with_reducible first | apply XBr.tt | apply XBr.ff | apply Chk.go | apply ChkA.go | apply ChkF.go | apply ChkB.go | apply XArr.pim0 | apply XArr.pim1); conv => whnf) | (with_reducible apply XBr.not) | ((with_reducible apply XBr.dec) <;> (intro h; first | (exfalso; omega) | ((try simp only [List.length_map] at h); first | (exfalso; omega) | (conv => whnf)))) | ((with_reducible first | apply XBr.beq | apply XBr.bne) <;> (intro h; first | (exfalso; omega) | (conv => whnf))) | ((with_reducible refine XInt.i64 (by omega) (by omega) ?_); conv => whnf) | ((with_reducible refine XHold.mk ?_ ?_); (first | omega | rfl | decide | exact ⟨rfl, by decide, rfl⟩ | exact wideI _ | exact widePr _ | exact wideSk _ | (unfold Room; constructor <;> ((try simp) <;> omega)) | exact ⟨rfl, by simp only [List.length_map], by unfold Room; constructor <;> ((try simp) <;> omega)⟩ | exact ⟨by omega, by omega, by unfold Room; constructor <;> ((try simp) <;> omega)⟩); conv => whnf) | ((first | ((with_reducible refine XIx.nat ?_ ?_ ?_); omega; (intro _; rfl)) | ((with_reducible refine XIx.map ?_ ?_ ?_ ?_); omega; omega; (intro _; rfl))); conv => whnf) | (with_reducible apply XAnd.mk) | (exact XSame.mk rfl rfl) | (exact XSame.mk (by first | rfl | (simp only [List.map_append, List.length_append, List.length_map]; done) | (simp only [List.map_append, List.length_append, List.length_map]; rfl)) (by first | rfl | (simp only [List.map_append]; done) | (simp only [List.map_append]; rfl))) | (with_reducible exact trivial) | ((first | (with_reducible refine xdrop_app (by rw [List.length_map]; omega) ?_) | (with_reducible refine XDrop.desk (by assumption) ?_) | (with_reducible first | refine XArr.ints (by omega) (by omega) (by omega) ?_ | refine XArr.intsA (by omega) (by omega) (by omega) ?_) | ((with_reducible first | refine XArr.nats ?_ ?_ ?_ | refine XArr.natsA ?_ ?_ ?_ | refine XArr.ptr ?_ ?_ ?_); omega; omega)); conv => whnf) | (exact XSame.mk (congrArg (AV.int .i64) e1) rfl) | (((refine XCall.of hof 0 rfl rfl rfl ?_); rw [hq]); conv => whnf) | (exact XSame.mk (congrArg (AV.int .i64) (by omega)) rfl) | ((with_reducible apply XBr.mk') <;> (intro h; conv => whnf))
          · skip
            repeat' first | ((with_reducible first | apply XBr.tt | apply XBr.ff | apply Chk.go | apply ChkA.go | apply ChkF.go | apply ChkB.go | apply XArr.pim0 | apply XArr.pim1); conv => whnf) | (with_reducible apply XBr.not) | ((with_reducible apply XBr.dec) <;> (intro h; first | (exfalso; omega) | ((try simp only [List.length_map] at h); first | (exfalso; omega) | (conv => whnf)))) | ((with_reducible first | apply XBr.beq | apply XBr.bne) <;> (intro h; first | (exfalso; omega) | (conv => whnf))) | ((with_reducible refine XInt.i64 (by omega) (by omega) ?_); conv => whnf) | ((with_reducible refine XHold.mk ?_ ?_); (first | omega | rfl | decide | exact ⟨rfl, by decide, rfl⟩ | exact wideI _ | exact widePr _ | exact wideSk _ | (unfold Room; constructor <;> ((try simp) <;> omega)) | exact ⟨rfl, by simp only [List.length_map], by unfold Room; constructor <;> ((try simp) <;> omega)⟩ | exact ⟨by omega, by omega, by unfold Room; constructor <;> ((try simp) <;> omega)⟩); conv => whnf) | ((first | ((with_reducible refine XIx.nat ?_ ?_ ?_); omega; (intro _; rfl)) | ((with_reducible refine XIx.map ?_ ?_ ?_ ?_); omega; omega; (intro _; rfl))); conv => whnf) | (with_reducible apply XAnd.mk) | (exact XSame.mk rfl rfl) | (exact XSame.mk (by first | rfl | (simp only [List.map_append, List.length_append, List.length_map]; done) | (simp only [List.map_append, List.length_append, List.length_map]; rfl)) (by first | rfl | (simp only [List.map_append]; done) | (simp only [List.map_append]; rfl))) | (with_reducible exact trivial) | ((first | (with_reducible refine xdrop_app (by rw [List.length_map]; omega) ?_) | (with_reducible refine XDrop.desk (by assumption) ?_) | (with_reducible first | refine XArr.ints (by omega) (by omega) (by omega) ?_ | refine XArr.intsA (by omega) (by omega) (by omega) ?_) | ((with_reducible first | refine XArr.nats ?_ ?_ ?_ | refine XArr.natsA ?_ ?_ ?_ | refine XArr.ptr ?_ ?_ ?_); omega; omega)); conv => whnf) | (exact XSame.mk (congrArg (AV.int .i64) e1) rfl) | (((refine XCall.of hof 0 rfl rfl rfl ?_); rw [hq]); conv => whnf) | (exact XSame.mk (congrArg (AV.int .i64) (by omega)) rfl) | ((with_reducible apply XBr.mk') <;> (intro h; conv => whnf))
          · conv => whnf
            repeat' first | ((with_reducible first | apply XBr.tt | apply XBr.ff | apply Chk.go | apply ChkA.go | apply ChkF.go | apply ChkB.go | apply XArr.pim0 | apply XArr.pim1); conv => whnf) | (with_reducible apply XBr.not) | ((with_reducible apply XBr.dec) <;> (intro h; first | (exfalso; omega) | ((try simp only [List.length_map] at h); first | (exfalso; omega) | (conv => whnf)))) | ((with_reducible first | apply XBr.beq | apply XBr.bne) <;> (intro h; first | (exfalso; omega) | (conv => whnf))) | ((with_reducible refine XInt.i64 (by omega) (by omega) ?_); conv => whnf) | ((with_reducible refine XHold.mk ?_ ?_); (first | omega | rfl | decide | exact ⟨rfl, by decide, rfl⟩ | exact wideI _ | exact widePr _ | exact wideSk _ | (unfold Room; constructor <;> ((try simp) <;> omega)) | exact ⟨rfl, by simp only [List.length_map], by unfold Room; constructor <;> ((try simp) <;> omega)⟩ | exact ⟨by omega, by omega, by unfold Room; constructor <;> ((try simp) <;> omega)⟩); conv => whnf) | ((first | ((with_reducible refine XIx.nat ?_ ?_ ?_); omega; (intro _; rfl)) | ((with_reducible refine XIx.map ?_ ?_ ?_ ?_); omega; omega; (intro _; rfl))); conv => whnf) | (with_reducible apply XAnd.mk) | (exact XSame.mk rfl rfl) | (exact XSame.mk (by first | rfl | (simp only [List.map_append, List.length_append, List.length_map]; done) | (simp only [List.map_append, List.length_append, List.length_map]; rfl)) (by first | rfl | (simp only [List.map_append]; done) | (simp only [List.map_append]; rfl))) | (with_reducible exact trivial) | ((first | (with_reducible refine xdrop_app (by rw [List.length_map]; omega) ?_) | (with_reducible refine XDrop.desk (by assumption) ?_) | (with_reducible first | refine XArr.ints (by omega) (by omega) (by omega) ?_ | refine XArr.intsA (by omega) (by omega) (by omega) ?_) | ((with_reducible first | refine XArr.nats ?_ ?_ ?_ | refine XArr.natsA ?_ ?_ ?_ | refine XArr.ptr ?_ ?_ ?_); omega; omega)); conv => whnf) | ((with_reducible apply XBr.mk') <;> (intro h; conv => whnf))
            subst hq
            exact ⟨rfl, rfl⟩
        · exact ⟨by have := (ofM_ok d f (diff set c) m' g1).1; simp only [ofStep]; omega, (ofM_ok d f (diff set c) m' g1).2, fun c hc => g2 c (List.mem_cons_of_mem _ hc)⟩
      · conv => whnf
        repeat' first | ((with_reducible first | apply XBr.tt | apply XBr.ff | apply Chk.go | apply ChkA.go | apply ChkF.go | apply ChkB.go | apply XArr.pim0 | apply XArr.pim1); conv => whnf) | (with_reducible apply XBr.not) | ((with_reducible apply XBr.dec) <;> (intro h; first | (exfalso; omega) | ((try simp only [List.length_map] at h); first | (exfalso; omega) | (conv => whnf)))) | ((with_reducible first | apply XBr.beq | apply XBr.bne) <;> (intro h; first | (exfalso; omega) | (conv => whnf))) | ((with_reducible refine XInt.i64 (by omega) (by omega) ?_); conv => whnf) | ((with_reducible refine XHold.mk ?_ ?_); (first | omega | rfl | decide | exact ⟨rfl, by decide, rfl⟩ | exact wideI _ | exact widePr _ | exact wideSk _ | (unfold Room; constructor <;> ((try simp) <;> omega)) | exact ⟨rfl, by simp only [List.length_map], by unfold Room; constructor <;> ((try simp) <;> omega)⟩ | exact ⟨by omega, by omega, by unfold Room; constructor <;> ((try simp) <;> omega)⟩); conv => whnf) | ((first | ((with_reducible refine XIx.nat ?_ ?_ ?_); omega; (intro _; rfl)) | ((with_reducible refine XIx.map ?_ ?_ ?_ ?_); omega; omega; (intro _; rfl))); conv => whnf) | (with_reducible apply XAnd.mk) | (exact XSame.mk rfl rfl) | (exact XSame.mk (by first | rfl | (simp only [List.map_append, List.length_append, List.length_map]; done) | (simp only [List.map_append, List.length_append, List.length_map]; rfl)) (by first | rfl | (simp only [List.map_append]; done) | (simp only [List.map_append]; rfl))) | (with_reducible exact trivial) | ((first | (with_reducible refine xdrop_app (by rw [List.length_map]; omega) ?_) | (with_reducible refine XDrop.desk (by assumption) ?_) | (with_reducible first | refine XArr.ints (by omega) (by omega) (by omega) ?_ | refine XArr.intsA (by omega) (by omega) (by omega) ?_) | ((with_reducible first | refine XArr.nats ?_ ?_ ?_ | refine XArr.natsA ?_ ?_ ?_ | refine XArr.ptr ?_ ?_ ?_); omega; omega)); conv => whnf) | ((with_reducible apply XBr.mk') <;> (intro h; conv => whnf))
        refine ⟨ofH d (putm set ((cartsL d set).foldl (ofStep d f set) (10, m)).1 ((cartsL d set).foldl (ofStep d f set) (10, m)).2), [.cells [natA ((cartsL d set).foldl (ofStep d f set) (10, m)).1], .raw (.deferred (some [])), .dead], ?_, rfl, ofH_low d _, by simp, ?_, rfl, ?_⟩
        · rw [show mput (set : Int) (natA _) (esA _) = _ from mput_esA _ _ _]; rfl
        · intro i hi; simp at hi; subst hi; exact ⟨by simp [ofH], rfl⟩
        · rw [ofM_succ, hl]; exact ⟨rfl, rfl⟩
end GA
end

section
namespace GA
open Go Go.RowKit
set_option linter.unusedVariables false

section
variable {P : Program} {T : Tab} {N : Nat} {ρ : Option Nat} {own : List Nat} {D : List Nat} {σ : St} {H : List Blk} {Q : Post} {E : Env} {h : Nat → Option Obj} {β : Nat → Value} {w : World} {a : Act}

theorem DfL.mem {en : Nat → Option Obj} {D : List Nat} {ds : List Deferred} (d : DfL P h β H en D ds) {b : Nat} (hb : ({ target := .collected b, args := #[] } : Deferred) ∈ ds) : (∃ j ∈ D, Rep P h β H (.yld j) (.func (.yield b) #[] #[])) ∨ h b = some (.deferred (some [])) := by
  induction d with
  | nil => simp at hb
  | @own i b' D ds r t ih =>
    rcases List.mem_cons.1 hb with e | e
    · cases e; exact .inl ⟨i, List.mem_cons_self, r⟩
    · rcases ih e with ⟨j, h1, h2⟩ | h1
      · exact .inl ⟨j, List.mem_cons_of_mem _ h1, h2⟩
      · exact .inr h1
  | @lost b' D ds h1 he nd t ih =>
    rcases List.mem_cons.1 hb with e | e
    · cases e; exact .inr h1
    · exact ih e
theorem DfL.lose {en : Nat → Option Obj} {h' : Nat → Option Obj} {H' : List Blk} {i b : Nat} {D0 : List Nat} {ds : List Deferred} (s : SR P E h β H w) (X : Ext h β H h' β H') (hbo : blkOf β H i = some b) (hb' : h' b = some (.deferred (some []))) (he : en b = none) (hm : h b = none) (hi : H[i]? = some (.raw (.deferred (some []))))
    (d : DfL P h β H en D0 ds) : ∀ {D : List Nat}, D0 = i :: D → i ∉ D → (∀ j ∈ D, H[j]? = some (.raw (.deferred (some [])))) → DfL P h' β H' en D ds := by
  induction d with
  | nil => intro D e; cases e
  | @own i' b' D' ds r t ih =>
    intro D e hni hD
    cases e
    have hbb : b' = b := by
      cases r with
      | yld hlv hb =>
        have hbi := hb _ hi rfl
        have : blkOf β H i = some b' := by simp only [blkOf, hi, hbi]; rfl
        rw [hbo] at this; cases this; rfl
    subst hbb
    refine .lost hb' he (fun b2 hb2 => ?_) (t.ext X)
    rintro rfl
    rcases t.mem hb2 with ⟨j, h1, h2⟩ | h1
    · cases h2 with
      | yld hlv hb =>
        have hj := hD j h1
        have hbj := hb _ hj rfl
        have : blkOf β H j = some b2 := by simp only [blkOf, hj, hbj]; rfl
        exact hni (s.own _ _ _ hbo this ▸ h1)
    · rw [hm] at h1; cases h1
  | @lost b' D' ds h1 he' nd t ih =>
    intro D e hni hD
    exact .lost (X.imm _ _ h1) he' nd (ih e hni hD)
theorem Stands.lose : ∀ {D : List Nat} {h : Nat → Option Obj} {H : List Blk}, Stands P E N h β D σ H a w → D.Nodup → (∀ i ∈ D, H[i]? = some (.raw (.deferred (some [])))) →
    ∃ h' H', Stands P E N h' β [] σ H' a w ∧ Ext h β H h' β H' ∧ H'.length = H.length ∧ ∀ j, j ∉ D → H'[j]? = H[j]?
  | [], h, H, s, _, _ => ⟨h, H, s, Ext.refl _ _ _, rfl, fun _ _ => rfl⟩
  | i :: D, h, H, s, hnd, hD => by
    have hi := hD i List.mem_cons_self
    obtain ⟨b, hb1, hb2⟩ := s.sr.blk i _ hi
    have hbo : blkOf β H i = some b := by simp only [blkOf, hi, hb1]; rfl
    have hm := s.sr.fresh _ _ hbo
    have he : E.en b = none := by
      cases hx : E.en b with
      | none => rfl
      | some o => rw [s.df.en b o hx] at hm; cases hm
    obtain ⟨h1, s1, X1, hf⟩ := s.sr.freeze hi
    have hni := (List.nodup_cons.1 hnd).1
    have hDs : ∀ j ∈ D, H[j]? = some (.raw (.deferred (some []))) := fun j hj => hD j (List.mem_cons_of_mem _ hj)
    have d1 := DfL.lose s.sr X1 hbo (hf b _ hbo hb2) he hm hi s.df.l rfl hni hDs
    have s2 : Stands P E N h1 β D σ (H.set i .dead) a w := ⟨s1, s.fits.ext X1, s.size, ⟨(s.df.ext X1).en, d1⟩⟩
    obtain ⟨h', H', s3, X3, hl, ho⟩ := Stands.lose s2 (List.nodup_cons.1 hnd).2 (fun j hj => by rw [List.getElem?_set_ne (show i ≠ j from fun e => hni (by rw [e]; exact hj))]; exact hDs j hj)
    refine ⟨h', H', s3, X1.trans X3, by rw [hl]; simp, fun j hj => ?_⟩
    rw [ho j (fun h => hj (List.mem_cons_of_mem _ h)), List.getElem?_set_ne (show i ≠ j from fun e => hj (by rw [← e]; exact List.mem_cons_self))]

theorem Walk.norm {id : Nat} {ops : Array Oper} (ok : TabOk P T) (own : List Nat) (L : List (Nat × AV)) (hs : SubX L σ) (x : XReg P T N own ops.toList ops.toList (stX L) H (Q .normal D)) : Walk P N ρ (.region id ops false) Q D σ H :=
  ⟨AWp.weaken (stX_sub hs) (AWp.regionX ok x)⟩
structure MarksOk (D : List Nat) (H : List Blk) (f : Nat → Nat) (n : Nat) : Prop where
  nd : D.Nodup
  raw : ∀ i ∈ D, H[i]? = some (.raw (.deferred (some [])))
  out : ∀ i, i < n → f i ∉ D

theorem AWp.loopM {c : Code} {G : Type} (st : G → St) (hp : G → List Blk) (μ : G → Nat) (g0 : G) (hσ : ∀ t r, st g0 t = some r → σ t = some r) (hH : hp g0 = H) (hD : D = [])
    (round : ∀ g, AWp P N ρ c (thenQ (fun D' σ' H' => ∃ g' f, μ g' < μ g ∧ MarksOk D' H' f (hp g').length ∧ RenS f H.length (hp g') (st g') H' σ') Q) D (st g) (hp g)) : AWp P N ρ (.loop c) Q D σ H := by
  intro E h β a w s
  subst hH; subst hD
  let I : G → Act → World → Prop := fun g a w => ∃ h' β', Ext h β (hp g0) h' β' (hp g) ∧ Stands P E N h' β' [] (st g) (hp g) a w
  have least : ∀ a w, (∃ g, I g a w) → ∃ n, (∃ g, I g a w ∧ μ g = n) ∧ ∀ m, m < n → ¬ ∃ g, I g a w ∧ μ g = m :=
    fun a w ⟨g, hg⟩ => exists_least ⟨μ g, g, hg, rfl⟩
  classical
  let M : Act → World → Nat := fun a w => if e : ∃ g, I g a w then Classical.choose (least a w e) else 0
  have hM : ∀ a w (e : ∃ g, I g a w), (∃ g, I g a w ∧ μ g = M a w) ∧ ∀ g, I g a w → M a w ≤ μ g := by
    intro a w e
    have hc := Classical.choose_spec (least a w e)
    have hm : M a w = Classical.choose (least a w e) := by simp only [M, dif_pos e]
    rw [hm]
    refine ⟨hc.1, fun g hg => ?_⟩
    rcases Nat.lt_or_ge (μ g) (Classical.choose (least a w e)) with hlt | hge
    · exact absurd ⟨g, hg, rfl⟩ (hc.2 _ hlt)
    · exact hge
  refine wpIn_loop (fun a w => ∃ g, I g a w) M ⟨g0, h, β, Ext.refl _ _ _, s.sr, fun t r e => s.fits t r (hσ t r e), s.size, s.df⟩ ?_
  intro a' w' hI
  obtain ⟨⟨g, hg, hmu⟩, _⟩ := hM a' w' hI
  obtain ⟨h', β', X, s'⟩ := hg
  refine wpIn_mono (round g E h' β' a' w' s') ?_
  rintro e a'' w'' ⟨D'', σ'', H0', h0', β'', q, X0', s0''⟩
  cases e with
  | normal =>
    obtain ⟨g', f, hlt, m, r0⟩ := q
    obtain ⟨h'', H'', s'', X1, hl, ho⟩ := s0''.lose m.nd m.raw
    have X' := X0'.trans X1
    have hm : ∀ (i : Nat) x1, (hp g')[i]? = some x1 → H''[f i]? = some (x1.ren f) := fun i x1 e => by
      rw [ho _ (m.out i (List.getElem?_eq_some_iff.1 e).1)]; exact r0.hm i x1 e
    have R : Ren f (fun i => β'' (f i)) (hp g') β'' H'' := ⟨hm, fun _ _ => rfl⟩
    have hI' : I g' a'' w'' := by
      refine ⟨h'', fun i => β'' (f i), ⟨(X.trans X').imm, r0.len, fun i x x' e e' => ?_⟩, R.sr s''.sr r0.inj r0.low, fun t r e => ?_, s''.size, s''.df.any⟩
      · have hi := (List.getElem?_eq_some_iff.1 e).1
        have h1 := hm i x' e'
        rw [r0.fix i hi, r0.lowb i x' hi e'] at h1
        have h2 := (X.trans X').to i x x' e h1
        cases x with
        | dead => exact h2
        | free => trivial
        | _ => simpa only [Blk.to, r0.fix i hi] using h2
      · obtain ⟨h1, h2⟩ := r0.st t r e
        obtain ⟨v, h3, h4⟩ := s''.fits t _ h1
        exact ⟨v, h3, R.unrep h4 rfl h2⟩
    refine ⟨⟨g', hI'⟩, ?_⟩
    have := (hM a'' w'' ⟨g', hI'⟩).2 g' hI'
    omega
  | _ => exact ⟨D'', σ'', H0', h0', β'', q, X.trans X0', s0''⟩

structure XAgainM {G : Type} (I : G → Prop) (L : G → List (Nat × AV)) (hp : G → List Blk) (μ : G → Nat) (base : Nat) (g : G) (D' : List Nat) (σ' : St) (H' : List Blk) : Prop where
  o : ∃ g' f, I g' ∧ μ g' < μ g ∧ MarksOk D' H' f (hp g').length ∧ RenS f base (hp g') (stX (L g')) H' σ'
theorem Walk.loopM {c : Code} {G : Type} (ok : TabOk P T) (own : List Nat) (I : G → Prop) (L : G → List (Nat × AV)) (hp : G → List Blk) (μ : G → Nat) (g0 : G) (base : Nat) (h0 : I g0) (hH : hp g0 = H) (hb : base = H.length) (hs : SubX (L g0) σ)
    (round : ∀ g, I g → XRun P T N ρ own c (thenQ (XAgainM I L hp μ base g) Q) [] (stX (L g)) (hp g)) : Walk P N ρ (.loop c) Q [] σ H := by
  constructor
  refine AWp.loopM (G := {g : G // I g}) (fun g => stX (L g.1)) (fun g => hp g.1) (fun g => μ g.1) ⟨g0, h0⟩ (stX_sub hs) hH rfl fun g => ?_
  refine (XRun.sound ok (round g.1 g.2)).mono fun e D' σ' H' q => ?_
  cases e with
  | normal => obtain ⟨g', f, h2, h3, h4, h5⟩ := q; exact ⟨⟨g', h2⟩, f, h3, h4, hb ▸ h5⟩
  | _ => exact q
theorem stX_mem : ∀ (l : List (Nat × AV)) t r, stX l t = some r → (t, r) ∈ l := by
  intro l; induction l with
  | nil => intro t r h; cases h
  | cons p l ih =>
    obtain ⟨u, x⟩ := p
    intro t r h; simp only [stX, updX_eq, upd] at h
    split at h
    · rename_i e; cases h; subst e; exact List.mem_cons_self
    · exact List.mem_cons_of_mem _ (ih t r h)
theorem AV.ren_id (a : AV) : a.ren id = a := by
  refine AV.rec (motive_1 := fun a => a.ren id = a) (motive_2 := fun l => renL id l = l) ?_ ?_ ?_ ?_ ?_ ?_ ?_ ?_ ?_ ?_ ?_ ?_ ?_ ?_ ?_ ?_ ?_ ?_ a
  all_goals first | (intros; rfl) | (intro cs ih; simp only [AV.ren, ih]) | (intro f cs ih; simp only [AV.ren, ih]) | (intro x l ih1 ih2; simp only [renL, ih1, ih2])
theorem Blk.ren_id (x : Blk) : x.ren id = x := by
  have hL : ∀ l : List AV, renL id l = l := fun l => by have := AV.ren_id (.agg l); simpa [AV.ren] using this
  cases x with
  | cells cs => simp only [Blk.ren, hL]
  | grow t nl els => simp only [Blk.ren, hL]
  | map es =>
    simp only [Blk.ren]
    have : ∀ p ∈ es, (fun p : Int × AV => (p.1, p.2.ren id)) p = id p := fun p _ => by simp only [AV.ren_id]; rfl
    rw [List.map_congr_left this, List.map_id]
  | lp st pend f tm ps x y n =>
    simp only [Blk.ren]
    have : ∀ p ∈ tm, (fun p : Nat × AV => (p.1, p.2.ren id)) p = id p := fun p _ => by simp only [AV.ren_id]; rfl
    rw [List.map_congr_left this, List.map_id]
  | _ => rfl
theorem XAgainM.go {G : Type} {I : G → Prop} {L : G → List (Nat × AV)} {hp : G → List Blk} {μ : G → Nat} {base : Nat} {g : G} {D : List Nat} (g' : G) (l : List Blk) (h1 : I g') (h2 : μ g' < μ g) (h3 : hp g' ++ l = H) (h4 : SubX (L g') σ) (hb : base ≤ (hp g').length)
    (h5 : ∀ x ∈ hp g', x.low (hp g').length = true) (h6 : ∀ p ∈ L g', p.2.low (hp g').length = true) (hnd : D.Nodup) (hD : ∀ i ∈ D, (hp g').length ≤ i ∧ lget H i = some (.raw (.deferred (some [])))) : XAgainM I L hp μ base g D σ H :=
  ⟨g', id, h1, h2, ⟨hnd, fun i hi => by have := (hD i hi).2; rwa [lget_eq] at this, fun i hi h => by have := (hD _ h).1; simp only [id] at this; omega⟩,
    ⟨fun _ _ _ _ e => e, fun _ _ => rfl, hb, fun i x1 e => by
      rw [← h3, Blk.ren_id]; simp only [id]
      rw [List.getElem?_append_left (List.getElem?_eq_some_iff.1 e).1]; exact e, fun _ x1 _ _ => Blk.ren_id x1, h5, fun t r e => by
      refine ⟨by rw [AV.ren_id]; exact stX_sub h4 t r e, h6 (t, r) (stX_mem _ _ _ e)⟩⟩⟩
end
end GA
end
