/- Contracts: bundles joined. -/
import Derived.Test.YtlbdomhfcghjdaaS9
import Derived.Test.YtlbdomhfcghjdaaAbs25
namespace GA
open Go Go.RowKit Go.Proofs
set_option pp.deepTerms true
set_option maxRecDepth 8000
set_option linter.unusedVariables false
set_option linter.unusedSimpArgs false

theorem xdrop_nats {xs : List Nat} {i : Nat} {k : List AV → Prop} (hi : i < xs.length) (h : k (.int .i64 (xs.getD i 0 : Nat) :: (nats xs).drop (0 + i * 1 + 1))) : xdrop (0 + i * 1) (nats xs) k :=
  xdrop_at _ (by have := nats_at (xs := xs) (i := i) hi []; rw [List.append_nil] at this; rw [Nat.zero_add]; exact this) h
theorem xspl_nats {xs : List Nat} {i : Nat} {v : Int} {k : List AV → Prop} (m : Nat) (hv : v = (m : Int)) (hi : i < xs.length) (h : k (nats (xs.set i m))) : xspl (nats xs) (0 + i * 1) [.int .i64 v] k := by
  subst hv
  refine xspl_to _ (by simp; omega) ?_ h
  rw [Nat.zero_add, Nat.mul_one]
  have e : (nats xs).set i (natA m) = nats (xs.set i m) := (List.map_set ..).symm
  rw [← e]
  have hl : i < (nats xs).length := by simpa using hi
  rw [List.set_eq_take_append_cons_drop, if_pos hl]
  simp [splice, natA]

theorem xtk_all : ∀ {n : Nat} {cs : List AV} {k : List AV → Prop}, cs.length = n → k cs → xtk n cs k
  | 0, [], _, _, h => h
  | n + 1, c :: cs, k, hl, h => xtk_all (n := n) (cs := cs) (k := fun l => k (c :: l)) (by simpa using hl) h
  | 0, _ :: _, _, hl, _ => by simp at hl
  | n + 1, [], _, hl, _ => by simp at hl
theorem xn_all : ∀ {n : Nat} {cs : List AV} {A : Prop}, cs.length = n → A → xn n cs A
  | 0, [], _, _, h => h
  | n + 1, c :: cs, A, hl, h => xn_all (n := n) (cs := cs) (A := A) (by simpa using hl) h
  | 0, _ :: _, _, hl, _ => by simp at hl
  | n + 1, [], _, hl, _ => by simp at hl
theorem xspl_all {c vs : List AV} {k : List AV → Prop} (hl : vs.length = c.length) (h : k vs) : xspl c 0 vs k :=
  xspl_to vs (by omega) (by simp [splice, hl]) h
def joinStep (b : List Nat) (p : Int × Int) : List Nat :=
  let all := b.getD p.1.toNat 0 ||| b.getD p.2.toNat 0
  b.mapIdx fun i x => if all / 2 ^ i % 2 = 1 then x ||| all else x
def joinR (l : Ld) (b : List Nat) : List Nat := l.wth.foldl joinStep b

/-- Memory that nothing changes. -/
def hsK (H : List Blk) : List Bool → List Blk := fun _ => H
theorem joinStep_len (b : List Nat) (p : Int × Int) : (joinStep b p).length = b.length := by simp [joinStep]
def joinI (l : Ld) (b : List Nat) (i : Nat) : List Nat := (l.wth.take i).foldl joinStep b
theorem foldl_len : ∀ (ps : List (Int × Int)) (b : List Nat), (ps.foldl joinStep b).length = b.length
  | [], _ => rfl
  | p :: ps, b => by rw [List.foldl_cons, foldl_len ps, joinStep_len]
def joinP (all : Nat) (b : List Nat) (j : Nat) : List Nat := b.mapIdx fun i x => if i < j ∧ all / 2 ^ i % 2 = 1 then x ||| all else x
theorem joinP_len (all : Nat) (b : List Nat) (j : Nat) : (joinP all b j).length = b.length := by simp [joinP]
theorem joinP_zero (all : Nat) (b : List Nat) : joinP all b 0 = b := by
  unfold joinP; apply List.ext_getElem (by simp); intro i h1 h2; simp
theorem joinP_at (all : Nat) (b : List Nat) (j : Nat) (hj : j < b.length) : (joinP all b j).getD j 0 = b.getD j 0 := by
  unfold joinP
  rw [List.getD_eq_getElem?_getD, List.getElem?_mapIdx, List.getD_eq_getElem?_getD, List.getElem?_eq_getElem hj]
  simp
theorem joinP_hit (all : Nat) (b : List Nat) (j : Nat) (hj : j < b.length) (hb : all / 2 ^ j % 2 = 1) : (joinP all b j).set j (b.getD j 0 ||| all) = joinP all b (j + 1) := by
  unfold joinP; apply List.ext_getElem (by simp)
  intro i h1 h2
  simp only [List.getElem_set, List.getElem_mapIdx]
  by_cases h : j = i
  · subst h; rw [if_pos rfl, if_pos ⟨by omega, hb⟩, List.getD_eq_getElem?_getD, List.getElem?_eq_getElem hj]; rfl
  · rw [if_neg h]
    by_cases h3 : i < j
    · simp [h3, show i < j + 1 by omega]
    · rw [if_neg (fun hh => h3 hh.1), if_neg (fun hh => by omega)]
theorem joinP_miss (all : Nat) (b : List Nat) (j : Nat) (hb : ¬ all / 2 ^ j % 2 = 1) : joinP all b j = joinP all b (j + 1) := by
  unfold joinP; apply List.ext_getElem (by simp)
  intro i h1 h2
  simp only [List.getElem_mapIdx]
  by_cases h : j = i
  · subst h; rw [if_neg (fun hh => hb hh.2), if_neg (fun hh => hb hh.2)]
  · by_cases h3 : i < j
    · simp [h3, show i < j + 1 by omega]
    · rw [if_neg (fun hh => h3 hh.1), if_neg (fun hh => by omega)]
theorem joinP_full (b : List Nat) (p : Int × Int) (hb : b.length = 9) : joinP (b.getD p.1.toNat 0 ||| b.getD p.2.toNat 0) b 9 = joinStep b p := by
  unfold joinP joinStep; apply List.ext_getElem (by simp)
  intro i h1 h2
  have : i < 9 := by simpa [hb] using h1
  simp only [List.getElem_mapIdx, this, true_and]
theorem joinStep_small (b : List Nat) (p : Int × Int) (hs : ∀ i, b.getD i 0 < 512) : ∀ i, (joinStep b p).getD i 0 < 512 := by
  intro i
  unfold joinStep
  rw [List.getD_eq_getElem?_getD, List.getElem?_mapIdx]
  rcases Nat.lt_or_ge i b.length with h | h
  · rw [List.getElem?_eq_getElem h]
    have h1 := hs i
    rw [List.getD_eq_getElem?_getD, List.getElem?_eq_getElem h] at h1
    have hall : (b.getD p.1.toNat 0 ||| b.getD p.2.toNat 0) < 2 ^ 9 := Nat.or_lt_two_pow (hs _) (hs _)
    simp only [Option.map_some, Option.getD_some] at h1 ⊢
    split
    · exact Nat.or_lt_two_pow (n := 9) h1 hall
    · exact h1
  · rw [List.getElem?_eq_none h]; simp
theorem joinI_small (l : Ld) (b : List Nat) (hs : ∀ i, b.getD i 0 < 512) (i : Nat) : ∀ j, (joinI l b i).getD j 0 < 512 := by
  unfold joinI
  generalize l.wth.take i = ps
  induction ps generalizing b with
  | nil => exact hs
  | cons p ps ih => rw [List.foldl_cons]; exact ih _ (joinStep_small b p hs)
theorem joinI_next (l : Ld) (b : List Nat) (i : Nat) (hi : i < l.wth.length) : joinI l b (i + 1) = joinStep (joinI l b i) (l.wth.getD i default) := by
  unfold joinI; rw [take_next hi, List.foldl_append]; rfl
theorem joined_c (l : Ld) (b : List Nat) (hb : b.length = 9) (hs : ∀ i, b.getD i 0 < 512) (hw : l.wth.length ≤ 8) (hp : ∀ p ∈ l.wth, 0 ≤ p.1 ∧ p.1 < 9 ∧ 0 ≤ p.2 ∧ p.2 < 9) : Comp Try.prog 131 [ldA l, .agg (nats b)] (.agg (nats (joinR l b))) := by
  refine Comp.body' (T := tab) (res := [.cell 4 159]) tab_ok [3] Try.func131 rfl (by kernel_rfl) Try.ntmps131 rfl (by simp only [List.length_cons, List.length_nil]; decide) (by simp only [lowL, AV.low, ldL, lowN]; rfl) ?_; conv => whnf
  refine Walk.loopG tab_ok [] (fun i : Nat => i ≤ l.wth.length) (fun i => [(2, .pim (ldC l)), (3, .ptr 0 0), (4, .ptr 1 0), (10, .sl l.nlw (l.wth.map prA)), (11, .int .i64 l.wth.length), (12, .int .i64 i)])
    (fun i => [.cells (nats (joinI l b i)), .cells (nats (List.replicate 9 0))]) (fun i => l.wth.length - i) 0 (by omega) rfl ⟨rfl, rfl, rfl, rfl, by simp only [List.length_map]; rfl, rfl, trivial⟩ ?_ ?_ ?_
  · intro i _
    constructor
    · intro x hx; simp at hx; rcases hx with rfl | rfl
      · simp only [Blk.low, lowN]
      · rfl
    · intro p hp; simp at hp; rcases hp with rfl | rfl | rfl | rfl | rfl | rfl <;> simp [AV.low, lowPr, lowLd]
  · intro i _; simp
  intro i hi
  have hlen : (joinI l b i).length = 9 := by unfold joinI; rw [foldl_len]; exact hb
  conv => whnf
  repeat' first
      | ((with_reducible apply XBr.tt); conv => whnf)
      | ((with_reducible apply XBr.ff); conv => whnf)
      | (with_reducible apply XBr.not)
      | ((with_reducible apply XBr.dec) <;> (intro h; first | (exfalso; omega) | ((try simp only [List.length_map] at h); first | (exfalso; omega) | (conv => whnf))))
      | ((with_reducible apply XBr.beq) <;> (intro h; first | (exfalso; omega) | (conv => whnf)))
      | ((with_reducible apply XBr.bne) <;> (intro h; first | (exfalso; omega) | (conv => whnf)))
      | ((with_reducible refine XInt.i64 (by omega) (by omega) ?_); conv => whnf)
      | ((with_reducible refine XHold.mk ?_ ?_); (first | omega | rfl | decide | exact ⟨rfl, by decide, rfl⟩ | exact wideI _ | exact widePr _ | exact wideSk _ | (unfold Room; constructor <;> ((try simp) <;> omega)) | exact ⟨rfl, by simp only [List.length_map], by unfold Room; constructor <;> ((try simp) <;> omega)⟩ | exact ⟨by omega, by omega, by unfold Room; constructor <;> ((try simp) <;> omega)⟩); conv => whnf)
      | ((with_reducible refine XIx.nat ?_ ?_ ?_); omega; (intro _; rfl); conv => whnf)
      | ((with_reducible refine XIx.map ?_ ?_ ?_ ?_); omega; omega; (intro _; rfl); conv => whnf)
      | (with_reducible apply XAnd.mk)
      | ((with_reducible apply Chk.go); conv => whnf)
      | ((with_reducible apply ChkA.go); conv => whnf)
      | ((with_reducible apply ChkF.go); conv => whnf)
      | ((with_reducible apply ChkB.go); conv => whnf)
      | (exact XSame.mk rfl rfl)
      | (exact XSame.mk (by first | rfl | (simp only [List.map_append, List.length_append, List.length_map]; done) | (simp only [List.map_append, List.length_append, List.length_map]; rfl)) (by first | rfl | (simp only [List.map_append]; done) | (simp only [List.map_append]; rfl)))
      | (with_reducible exact trivial)
      | ((with_reducible refine xdrop_app (by rw [List.length_map]; omega) ?_); conv => whnf)
      | ((with_reducible refine XArr.ints (by omega) (by omega) (by omega) ?_); conv => whnf)
      | ((with_reducible refine XArr.intsA (by omega) (by omega) (by omega) ?_); conv => whnf)
      | ((with_reducible refine XArr.nats ?_ ?_ ?_); omega; omega; conv => whnf)
      | ((with_reducible refine XArr.natsA ?_ ?_ ?_); omega; omega; conv => whnf)
      | ((with_reducible apply XArr.pim0); conv => whnf)
      | ((with_reducible apply XArr.pim1); conv => whnf)
      | ((with_reducible refine XArr.ptr ?_ ?_ ?_); omega; omega; conv => whnf)
      | ((with_reducible apply XBr.mk') <;> (intro h; conv => whnf))
  · obtain ⟨p1, p2, p3, p4⟩ := hp _ (getD_mem (xs := l.wth) (i := i) (d := default) (by omega))
    apply Walk.drawX tab_ok mixed_ok [] [] (hsK _) [_, _, _, _, _, _, _, _, _, _] (by kernel_rfl) rfl
    · skip
      repeat' first
          | ((with_reducible apply XBr.tt); conv => whnf)
          | ((with_reducible apply XBr.ff); conv => whnf)
          | (with_reducible apply XBr.not)
          | ((with_reducible apply XBr.dec) <;> (intro h; first | (exfalso; omega) | ((try simp only [List.length_map] at h); first | (exfalso; omega) | (conv => whnf))))
          | ((with_reducible apply XBr.beq) <;> (intro h; first | (exfalso; omega) | (conv => whnf)))
          | ((with_reducible apply XBr.bne) <;> (intro h; first | (exfalso; omega) | (conv => whnf)))
          | ((with_reducible refine XInt.i64 (by omega) (by omega) ?_); conv => whnf)
          | ((with_reducible refine XHold.mk ?_ ?_); (first | omega | rfl | decide | exact ⟨rfl, by decide, rfl⟩ | exact wideI _ | exact widePr _ | exact wideSk _ | (unfold Room; constructor <;> ((try simp) <;> omega)) | exact ⟨rfl, by simp only [List.length_map], by unfold Room; constructor <;> ((try simp) <;> omega)⟩ | exact ⟨by omega, by omega, by unfold Room; constructor <;> ((try simp) <;> omega)⟩); conv => whnf)
          | ((with_reducible refine XIx.nat ?_ ?_ ?_); omega; (intro _; rfl); conv => whnf)
          | ((with_reducible refine XIx.map ?_ ?_ ?_ ?_); omega; omega; (intro _; rfl); conv => whnf)
          | (with_reducible apply XAnd.mk)
          | ((with_reducible apply Chk.go); conv => whnf)
          | ((with_reducible apply ChkA.go); conv => whnf)
          | ((with_reducible apply ChkF.go); conv => whnf)
          | ((with_reducible apply ChkB.go); conv => whnf)
          | (exact XSame.mk rfl rfl)
          | (exact XSame.mk (by first | rfl | (simp only [List.map_append, List.length_append, List.length_map]; done) | (simp only [List.map_append, List.length_append, List.length_map]; rfl)) (by first | rfl | (simp only [List.map_append]; done) | (simp only [List.map_append]; rfl)))
          | (with_reducible exact trivial)
          | ((with_reducible refine xdrop_app (by rw [List.length_map]; omega) ?_); conv => whnf)
          | ((with_reducible refine XArr.ints (by omega) (by omega) (by omega) ?_); conv => whnf)
          | ((with_reducible refine XArr.intsA (by omega) (by omega) (by omega) ?_); conv => whnf)
          | ((with_reducible refine XArr.nats ?_ ?_ ?_); omega; omega; conv => whnf)
          | ((with_reducible refine XArr.natsA ?_ ?_ ?_); omega; omega; conv => whnf)
          | ((with_reducible apply XArr.pim0); conv => whnf)
          | ((with_reducible apply XArr.pim1); conv => whnf)
          | ((with_reducible refine XArr.ptr ?_ ?_ ?_); omega; omega; conv => whnf)
          | ((refine xdrop_nats (by omega) ?_); conv => whnf)
          | ((with_reducible apply XBr.mk') <;> (intro h; conv => whnf))
    · skip
      repeat' first
          | ((with_reducible apply XBr.tt); conv => whnf)
          | ((with_reducible apply XBr.ff); conv => whnf)
          | (with_reducible apply XBr.not)
          | ((with_reducible apply XBr.dec) <;> (intro h; first | (exfalso; omega) | ((try simp only [List.length_map] at h); first | (exfalso; omega) | (conv => whnf))))
          | ((with_reducible apply XBr.beq) <;> (intro h; first | (exfalso; omega) | (conv => whnf)))
          | ((with_reducible apply XBr.bne) <;> (intro h; first | (exfalso; omega) | (conv => whnf)))
          | ((with_reducible refine XInt.i64 (by omega) (by omega) ?_); conv => whnf)
          | ((with_reducible refine XHold.mk ?_ ?_); (first | omega | rfl | decide | exact ⟨rfl, by decide, rfl⟩ | exact wideI _ | exact widePr _ | exact wideSk _ | (unfold Room; constructor <;> ((try simp) <;> omega)) | exact ⟨rfl, by simp only [List.length_map], by unfold Room; constructor <;> ((try simp) <;> omega)⟩ | exact ⟨by omega, by omega, by unfold Room; constructor <;> ((try simp) <;> omega)⟩); conv => whnf)
          | ((with_reducible refine XIx.nat ?_ ?_ ?_); omega; (intro _; rfl); conv => whnf)
          | ((with_reducible refine XIx.map ?_ ?_ ?_ ?_); omega; omega; (intro _; rfl); conv => whnf)
          | (with_reducible apply XAnd.mk)
          | ((with_reducible apply Chk.go); conv => whnf)
          | ((with_reducible apply ChkA.go); conv => whnf)
          | ((with_reducible apply ChkF.go); conv => whnf)
          | ((with_reducible apply ChkB.go); conv => whnf)
          | (exact XSame.mk rfl rfl)
          | (exact XSame.mk (by first | rfl | (simp only [List.map_append, List.length_append, List.length_map]; done) | (simp only [List.map_append, List.length_append, List.length_map]; rfl)) (by first | rfl | (simp only [List.map_append]; done) | (simp only [List.map_append]; rfl)))
          | (with_reducible exact trivial)
          | ((with_reducible refine xdrop_app (by rw [List.length_map]; omega) ?_); conv => whnf)
          | ((with_reducible refine XArr.ints (by omega) (by omega) (by omega) ?_); conv => whnf)
          | ((with_reducible refine XArr.intsA (by omega) (by omega) (by omega) ?_); conv => whnf)
          | ((with_reducible refine XArr.nats ?_ ?_ ?_); omega; omega; conv => whnf)
          | ((with_reducible refine XArr.natsA ?_ ?_ ?_); omega; omega; conv => whnf)
          | ((with_reducible apply XArr.pim0); conv => whnf)
          | ((with_reducible apply XArr.pim1); conv => whnf)
          | ((with_reducible refine XArr.ptr ?_ ?_ ?_); omega; omega; conv => whnf)
          | ((with_reducible apply XBr.mk') <;> (intro h; conv => whnf))
    · conv => whnf
      repeat' first
          | ((with_reducible apply XBr.tt); conv => whnf)
          | ((with_reducible apply XBr.ff); conv => whnf)
          | (with_reducible apply XBr.not)
          | ((with_reducible apply XBr.dec) <;> (intro h; first | (exfalso; omega) | ((try simp only [List.length_map] at h); first | (exfalso; omega) | (conv => whnf))))
          | ((with_reducible apply XBr.beq) <;> (intro h; first | (exfalso; omega) | (conv => whnf)))
          | ((with_reducible apply XBr.bne) <;> (intro h; first | (exfalso; omega) | (conv => whnf)))
          | ((with_reducible refine XInt.i64 (by omega) (by omega) ?_); conv => whnf)
          | ((with_reducible refine XHold.mk ?_ ?_); (first | omega | rfl | decide | exact ⟨rfl, by decide, rfl⟩ | exact wideI _ | exact widePr _ | exact wideSk _ | (unfold Room; constructor <;> ((try simp) <;> omega)) | exact ⟨rfl, by simp only [List.length_map], by unfold Room; constructor <;> ((try simp) <;> omega)⟩ | exact ⟨by omega, by omega, by unfold Room; constructor <;> ((try simp) <;> omega)⟩); conv => whnf)
          | ((with_reducible refine XIx.nat ?_ ?_ ?_); omega; (intro _; rfl); conv => whnf)
          | ((with_reducible refine XIx.map ?_ ?_ ?_ ?_); omega; omega; (intro _; rfl); conv => whnf)
          | (with_reducible apply XAnd.mk)
          | ((with_reducible apply Chk.go); conv => whnf)
          | ((with_reducible apply ChkA.go); conv => whnf)
          | ((with_reducible apply ChkF.go); conv => whnf)
          | ((with_reducible apply ChkB.go); conv => whnf)
          | (exact XSame.mk rfl rfl)
          | (exact XSame.mk (by first | rfl | (simp only [List.map_append, List.length_append, List.length_map]; done) | (simp only [List.map_append, List.length_append, List.length_map]; rfl)) (by first | rfl | (simp only [List.map_append]; done) | (simp only [List.map_append]; rfl)))
          | (with_reducible exact trivial)
          | ((with_reducible refine xdrop_app (by rw [List.length_map]; omega) ?_); conv => whnf)
          | ((with_reducible refine XArr.ints (by omega) (by omega) (by omega) ?_); conv => whnf)
          | ((with_reducible refine XArr.intsA (by omega) (by omega) (by omega) ?_); conv => whnf)
          | ((with_reducible refine XArr.nats ?_ ?_ ?_); omega; omega; conv => whnf)
          | ((with_reducible refine XArr.natsA ?_ ?_ ?_); omega; omega; conv => whnf)
          | ((with_reducible apply XArr.pim0); conv => whnf)
          | ((with_reducible apply XArr.pim1); conv => whnf)
          | ((with_reducible refine XArr.ptr ?_ ?_ ?_); omega; omega; conv => whnf)
          | ((with_reducible apply XBr.mk') <;> (intro h; conv => whnf))
      have hsm := joinI_small l b hs i
      have hx := hsm (l.wth.getD i default).1.toNat
      have hy := hsm (l.wth.getD i default).2.toNat
      have hall : ((joinI l b i).getD (l.wth.getD i default).1.toNat 0 ||| (joinI l b i).getD (l.wth.getD i default).2.toNat 0) < 2 ^ 9 := Nat.or_lt_two_pow (n := 9) hx hy
      have hor := ior_nat (a := (joinI l b i).getD (l.wth.getD i default).1.toNat 0) (b := (joinI l b i).getD (l.wth.getD i default).2.toNat 0) (by omega) (by omega)
      generalize hae : ((joinI l b i).getD (l.wth.getD i default).1.toNat 0 ||| (joinI l b i).getD (l.wth.getD i default).2.toNat 0) = all at hall hor
      refine Walk.loop tab_ok [] (fun j : Nat => j ≤ 9) (fun j => [(2, .pim (ldC l)), (3, .ptr 0 0), (4, .ptr 1 0), (10, .sl l.nlw (l.wth.map prA)), (11, .int .i64 l.wth.length), (12, .int .i64 i), (7, .int .i64 all), (25, .int .i64 j)])
        (fun j => [.cells (nats (joinP all (joinI l b i) j)), .cells (nats (List.replicate 9 0)), .cells [.int .i64 (l.wth.getD i default).1, .int .i64 (l.wth.getD i default).2]]) (fun j => 9 - j) 0 (by omega) (by simp only [joinP_zero]; rfl) ⟨rfl, rfl, rfl, rfl, rfl, rfl, congrArg (fun n => some (AV.int .i64 n)) hor, rfl, trivial⟩ ?_
      intro j hj
      have hpl : (joinP all (joinI l b i) j).length = 9 := by rw [joinP_len]; exact hlen
      have hbit := bit_at (set := all) (p := (j : Int)) (by omega) (by omega) (by omega)
      rw [Int.toNat_natCast] at hbit
      conv => whnf
      repeat' first
          | ((with_reducible apply XBr.tt); conv => whnf)
          | ((with_reducible apply XBr.ff); conv => whnf)
          | (with_reducible apply XBr.not)
          | ((with_reducible apply XBr.dec) <;> (intro h; first | (exfalso; omega) | ((try simp only [List.length_map] at h); first | (exfalso; omega) | (conv => whnf))))
          | ((with_reducible apply XBr.beq) <;> (intro h; first | (exfalso; omega) | (conv => whnf)))
          | ((with_reducible apply XBr.bne) <;> (intro h; first | (exfalso; omega) | (conv => whnf)))
          | ((with_reducible refine XInt.i64 (by omega) (by omega) ?_); conv => whnf)
          | ((with_reducible refine XHold.mk ?_ ?_); (first | omega | rfl | decide | exact ⟨rfl, by decide, rfl⟩ | exact wideI _ | exact widePr _ | exact wideSk _ | (unfold Room; constructor <;> ((try simp) <;> omega)) | exact ⟨rfl, by simp only [List.length_map], by unfold Room; constructor <;> ((try simp) <;> omega)⟩ | exact ⟨by omega, by omega, by unfold Room; constructor <;> ((try simp) <;> omega)⟩); conv => whnf)
          | ((with_reducible refine XIx.nat ?_ ?_ ?_); omega; (intro _; rfl); conv => whnf)
          | ((with_reducible refine XIx.map ?_ ?_ ?_ ?_); omega; omega; (intro _; rfl); conv => whnf)
          | (with_reducible apply XAnd.mk)
          | ((with_reducible apply Chk.go); conv => whnf)
          | ((with_reducible apply ChkA.go); conv => whnf)
          | ((with_reducible apply ChkF.go); conv => whnf)
          | ((with_reducible apply ChkB.go); conv => whnf)
          | (exact XSame.mk rfl rfl)
          | (exact XSame.mk (by first | rfl | (simp only [List.map_append, List.length_append, List.length_map]; done) | (simp only [List.map_append, List.length_append, List.length_map]; rfl)) (by first | rfl | (simp only [List.map_append]; done) | (simp only [List.map_append]; rfl)))
          | (with_reducible exact trivial)
          | ((with_reducible refine xdrop_app (by rw [List.length_map]; omega) ?_); conv => whnf)
          | ((with_reducible refine XArr.ints (by omega) (by omega) (by omega) ?_); conv => whnf)
          | ((with_reducible refine XArr.intsA (by omega) (by omega) (by omega) ?_); conv => whnf)
          | ((with_reducible refine XArr.nats ?_ ?_ ?_); omega; omega; conv => whnf)
          | ((with_reducible refine XArr.natsA ?_ ?_ ?_); omega; omega; conv => whnf)
          | ((with_reducible apply XArr.pim0); conv => whnf)
          | ((with_reducible apply XArr.pim1); conv => whnf)
          | ((with_reducible refine XArr.ptr ?_ ?_ ?_); omega; omega; conv => whnf)
          | ((with_reducible apply XBr.mk') <;> (intro h; conv => whnf))
      · rw [Int.toNat_natCast, hbit] at h
        have hb1 : all / 2 ^ j % 2 = 1 := by omega
        refine xdrop_nats (i := j) (by omega) ?_
        conv => whnf
        repeat' first
            | ((with_reducible apply XBr.tt); conv => whnf)
            | ((with_reducible apply XBr.ff); conv => whnf)
            | (with_reducible apply XBr.not)
            | ((with_reducible apply XBr.dec) <;> (intro h; first | (exfalso; omega) | ((try simp only [List.length_map] at h); first | (exfalso; omega) | (conv => whnf))))
            | ((with_reducible apply XBr.beq) <;> (intro h; first | (exfalso; omega) | (conv => whnf)))
            | ((with_reducible apply XBr.bne) <;> (intro h; first | (exfalso; omega) | (conv => whnf)))
            | ((with_reducible refine XInt.i64 (by omega) (by omega) ?_); conv => whnf)
            | ((with_reducible refine XHold.mk ?_ ?_); (first | omega | rfl | decide | exact ⟨rfl, by decide, rfl⟩ | exact wideI _ | exact widePr _ | exact wideSk _ | (unfold Room; constructor <;> ((try simp) <;> omega)) | exact ⟨rfl, by simp only [List.length_map], by unfold Room; constructor <;> ((try simp) <;> omega)⟩ | exact ⟨by omega, by omega, by unfold Room; constructor <;> ((try simp) <;> omega)⟩); conv => whnf)
            | ((with_reducible refine XIx.nat ?_ ?_ ?_); omega; (intro _; rfl); conv => whnf)
            | ((with_reducible refine XIx.map ?_ ?_ ?_ ?_); omega; omega; (intro _; rfl); conv => whnf)
            | (with_reducible apply XAnd.mk)
            | ((with_reducible apply Chk.go); conv => whnf)
            | ((with_reducible apply ChkA.go); conv => whnf)
            | ((with_reducible apply ChkF.go); conv => whnf)
            | ((with_reducible apply ChkB.go); conv => whnf)
            | (exact XSame.mk rfl rfl)
            | (exact XSame.mk (by first | rfl | (simp only [List.map_append, List.length_append, List.length_map]; done) | (simp only [List.map_append, List.length_append, List.length_map]; rfl)) (by first | rfl | (simp only [List.map_append]; done) | (simp only [List.map_append]; rfl)))
            | (with_reducible exact trivial)
            | ((with_reducible refine xdrop_app (by rw [List.length_map]; omega) ?_); conv => whnf)
            | ((with_reducible refine XArr.ints (by omega) (by omega) (by omega) ?_); conv => whnf)
            | ((with_reducible refine XArr.intsA (by omega) (by omega) (by omega) ?_); conv => whnf)
            | ((with_reducible refine XArr.nats ?_ ?_ ?_); omega; omega; conv => whnf)
            | ((with_reducible refine XArr.natsA ?_ ?_ ?_); omega; omega; conv => whnf)
            | ((with_reducible apply XArr.pim0); conv => whnf)
            | ((with_reducible apply XArr.pim1); conv => whnf)
            | ((with_reducible refine XArr.ptr ?_ ?_ ?_); omega; omega; conv => whnf)
            | ((with_reducible apply XBr.mk') <;> (intro h; conv => whnf))
        have hlt := hsm j
        refine xspl_nats ((joinI l b i).getD j 0 ||| all) (by rw [joinP_at _ _ _ (by omega)]; exact ior_nat (by omega) (by omega)) (by omega) ?_
        conv => whnf
        repeat' first
            | ((with_reducible apply XBr.tt); conv => whnf)
            | ((with_reducible apply XBr.ff); conv => whnf)
            | (with_reducible apply XBr.not)
            | ((with_reducible apply XBr.dec) <;> (intro h; first | (exfalso; omega) | ((try simp only [List.length_map] at h); first | (exfalso; omega) | (conv => whnf))))
            | ((with_reducible apply XBr.beq) <;> (intro h; first | (exfalso; omega) | (conv => whnf)))
            | ((with_reducible apply XBr.bne) <;> (intro h; first | (exfalso; omega) | (conv => whnf)))
            | ((with_reducible refine XInt.i64 (by omega) (by omega) ?_); conv => whnf)
            | ((with_reducible refine XHold.mk ?_ ?_); (first | omega | rfl | decide | exact ⟨rfl, by decide, rfl⟩ | exact wideI _ | exact widePr _ | exact wideSk _ | (unfold Room; constructor <;> ((try simp) <;> omega)) | exact ⟨rfl, by simp only [List.length_map], by unfold Room; constructor <;> ((try simp) <;> omega)⟩ | exact ⟨by omega, by omega, by unfold Room; constructor <;> ((try simp) <;> omega)⟩); conv => whnf)
            | ((with_reducible refine XIx.nat ?_ ?_ ?_); omega; (intro _; rfl); conv => whnf)
            | ((with_reducible refine XIx.map ?_ ?_ ?_ ?_); omega; omega; (intro _; rfl); conv => whnf)
            | (with_reducible apply XAnd.mk)
            | ((with_reducible apply Chk.go); conv => whnf)
            | ((with_reducible apply ChkA.go); conv => whnf)
            | ((with_reducible apply ChkF.go); conv => whnf)
            | ((with_reducible apply ChkB.go); conv => whnf)
            | (exact XSame.mk rfl rfl)
            | (exact XSame.mk (by first | rfl | (simp only [List.map_append, List.length_append, List.length_map]; done) | (simp only [List.map_append, List.length_append, List.length_map]; rfl)) (by first | rfl | (simp only [List.map_append]; done) | (simp only [List.map_append]; rfl)))
            | (with_reducible exact trivial)
            | ((with_reducible refine xdrop_app (by rw [List.length_map]; omega) ?_); conv => whnf)
            | ((with_reducible refine XArr.ints (by omega) (by omega) (by omega) ?_); conv => whnf)
            | ((with_reducible refine XArr.intsA (by omega) (by omega) (by omega) ?_); conv => whnf)
            | ((with_reducible refine XArr.nats ?_ ?_ ?_); omega; omega; conv => whnf)
            | ((with_reducible refine XArr.natsA ?_ ?_ ?_); omega; omega; conv => whnf)
            | ((with_reducible apply XArr.pim0); conv => whnf)
            | ((with_reducible apply XArr.pim1); conv => whnf)
            | ((with_reducible refine XArr.ptr ?_ ?_ ?_); omega; omega; conv => whnf)
            | ((with_reducible apply XBr.mk') <;> (intro h; conv => whnf))
        refine XAgain.go (j + 1) (by omega) (by omega) ?_ ⟨rfl, rfl, rfl, rfl, rfl, rfl, rfl, rfl, trivial⟩
        rw [Int.toNat_natCast, joinP_hit _ _ _ (by omega) hb1]
      · rw [Int.toNat_natCast, hbit] at h
        have hb1 : ¬ all / 2 ^ j % 2 = 1 := by omega
        refine XAgain.go (j + 1) (by omega) (by omega) ?_ ⟨rfl, rfl, rfl, rfl, rfl, rfl, rfl, rfl, trivial⟩
        rw [← joinP_miss _ _ _ hb1]
      · have : j = 9 := by omega
        subst this
        refine XAgainG.go (i + 1) [.cells [.int .i64 (l.wth.getD i default).1, .int .i64 (l.wth.getD i default).2]] (by omega) (by omega) ?_ ⟨rfl, rfl, rfl, rfl, rfl, rfl, trivial⟩
        rw [joinI_next l b i (by omega), ← joinP_full _ _ hlen, hae]; rfl
  · have hie : i = l.wth.length := by omega
    have hfin : joinI l b i = joinR l b := by unfold joinI joinR; rw [hie, List.take_length]
    rw [hfin] at hlen ⊢
    refine xtk_all (by rw [List.length_map]; exact hlen) ?_
    conv => whnf
    refine xn_all (by rw [List.length_map]; exact hlen) ?_
    conv => whnf
    refine xspl_all (by rw [List.length_map, List.length_map]; exact hlen) ?_
    conv => whnf
    refine xtk_all (by rw [List.length_map]; exact hlen) ?_
    conv => whnf
    exact ⟨Froz.low (by show lowL 0 _ = true; exact lowN _)⟩
end GA
