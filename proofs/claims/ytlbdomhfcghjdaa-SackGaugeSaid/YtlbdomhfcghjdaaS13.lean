/- Contracts: a load is opened. -/
import Derived.Test.YtlbdomhfcghjdaaS12
import Derived.Test.YtlbdomhfcghjdaaAbs27
namespace GA
open Go Go.RowKit Go.Proofs
set_option pp.deepTerms true
set_option maxRecDepth 8000
set_option linter.unusedVariables false
set_option linter.unusedSimpArgs false

/-- The weight of a set. -/
def sumW : List Nat → Nat → Nat
  | [], _ => 0
  | w :: ws, s => (if s % 2 = 1 then w else 0) + sumW ws (s / 2)
def wt (l : Ld) (s : Sk) : Nat := (weightR l s).toNat
def wts (l : Ld) : List Nat := l.sacks.map (wt l)
def hvF (ws : List Nat) (n : Nat) : List Nat := (List.range 512).map fun s => if s < n then sumW ws s else 0
def ndI (n : Nat) : List Nat := (List.range 9).map fun i => if i < n then 2 ^ i else 0
theorem sumW_zero : ∀ ws : List Nat, sumW ws 0 = 0
  | [] => rfl
  | w :: ws => by unfold sumW; rw [Nat.zero_div, sumW_zero ws]; rfl
theorem sumW_add : ∀ (ws : List Nat) (i k : Nat), k < 2 ^ i → sumW ws (2 ^ i + k) = sumW ws k + ws.getD i 0
  | [], i, k, _ => by simp [sumW]
  | w :: ws, 0, k, h => by
    have : k = 0 := by simpa using h
    subst this
    simp [sumW, sumW_zero]
  | w :: ws, i + 1, k, h => by
    have e : 2 ^ (i + 1) = 2 * 2 ^ i := by rw [Nat.pow_succ]; omega
    have e1 : (2 ^ (i + 1) + k) % 2 = k % 2 := by omega
    have e2 : (2 ^ (i + 1) + k) / 2 = 2 ^ i + k / 2 := by omega
    unfold sumW
    rw [e1, e2, sumW_add ws i (k / 2) (by omega)]
    simp only [List.getD_cons_succ]; omega
theorem sumW_le : ∀ (ws : List Nat) (s : Nat), (∀ w ∈ ws, w ≤ 100) → sumW ws s ≤ 100 * ws.length
  | [], _, _ => by simp [sumW]
  | w :: ws, s, h => by
    have := sumW_le ws (s / 2) (fun x hx => h x (List.mem_cons_of_mem _ hx))
    have := h w List.mem_cons_self
    unfold sumW; simp only [List.length_cons]; split <;> omega
theorem hvF_len (ws : List Nat) (n : Nat) : (hvF ws n).length = 512 := by simp [hvF]
theorem ndI_len (n : Nat) : (ndI n).length = 9 := by simp [ndI]
theorem hvF_get {ws : List Nat} {n k : Nat} (hk : k < 512) : (hvF ws n).getD k 0 = if k < n then sumW ws k else 0 := by
  unfold hvF; rw [List.getD_eq_getElem?_getD, List.getElem?_map, List.getElem?_range hk]; rfl
theorem hvF_one (ws : List Nat) : hvF ws 1 = List.replicate 512 0 := by
  apply List.ext_getElem (by simp [hvF])
  intro i h1 h2
  simp only [hvF, List.getElem_map, List.getElem_range, List.getElem_replicate]
  split
  · rw [show i = 0 by omega, sumW_zero]
  · rfl
theorem hvF_set {ws : List Nat} {n v : Nat} (hn : n < 512) (hv : v = sumW ws n) : (hvF ws n).set n v = hvF ws (n + 1) := by
  subst hv
  apply List.ext_getElem (by simp [hvF])
  intro i h1 h2
  simp only [hvF, List.getElem_set, List.getElem_map, List.getElem_range]
  by_cases h : n = i
  · subst h; rw [if_pos rfl, if_pos (by omega)]
  · rw [if_neg h]
    by_cases h3 : i < n
    · rw [if_pos h3, if_pos (by omega)]
    · rw [if_neg h3, if_neg (by omega)]
theorem ndI_zero : ndI 0 = List.replicate 9 0 := by decide
theorem ndI_set {n : Nat} (hn : n < 9) : (ndI n).set n (2 ^ n) = ndI (n + 1) := by
  apply List.ext_getElem (by simp [ndI])
  intro i h1 h2
  simp only [ndI, List.getElem_set, List.getElem_map, List.getElem_range]
  by_cases h : n = i
  · subst h; rw [if_pos rfl, if_pos (by omega)]
  · rw [if_neg h]
    by_cases h3 : i < n
    · rw [if_pos h3, if_pos (by omega)]
    · rw [if_neg h3, if_neg (by omega)]
theorem ndI_small (n : Nat) : ∀ i, (ndI n).getD i 0 < 512 := by
  intro i
  rcases Nat.lt_or_ge i 9 with h | h
  · unfold ndI; rw [List.getD_eq_getElem?_getD, List.getElem?_map, List.getElem?_range h]
    simp only [Option.map_some, Option.getD_some]
    split
    · have := Nat.pow_le_pow_right (n := 2) (by omega) (show i ≤ 8 by omega); omega
    · omega
  · rw [List.getD_eq_getElem?_getD, List.getElem?_eq_none (by rw [ndI_len]; omega)]; simp

/-- The desk's cells are read and written. -/
theorem desk_hv (d : Dk) {i : Nat} (hi : i < d.hv.length) : (deskC d)[5 + i]? = some (natA (d.hv.getD i 0)) := by
  unfold deskC
  rw [show 5 + i = i + 1 + 1 + 1 + 1 + 1 by omega]
  simp only [List.getElem?_cons_succ]
  rw [List.getElem?_append_left (by simpa using hi), List.getElem?_map, List.getD_eq_getElem?_getD, List.getElem?_eq_getElem hi]; rfl
theorem desk_nd (d : Dk) (hh : d.hv.length = 512) {i : Nat} (hi : i < d.nd.length) : (deskC d)[517 + i]? = some (natA (d.nd.getD i 0)) := by
  unfold deskC
  rw [show 517 + i = 512 + i + 1 + 1 + 1 + 1 + 1 by omega]
  simp only [List.getElem?_cons_succ]
  rw [List.getElem?_append_right (by simp [hh]), List.getElem?_map, List.getD_eq_getElem?_getD, List.length_map, hh, Nat.add_sub_cancel_left, List.getElem?_eq_getElem hi]; rfl
theorem xdrop_dkW {d : Dk} {o : Nat} {k : List AV → Prop} (i : Nat) (ho : o = 5 + i) (hi : i < d.hv.length) (h : k (natA (d.hv.getD i 0) :: (deskC d).drop (o + 1))) : xdrop o (deskC d) k :=
  xdrop_at _ (by rw [ho]; exact desk_hv d hi) h
theorem xdrop_dkN {d : Dk} {k : List AV → Prop} (hh : d.hv.length = 512) (h : k (nats d.nd)) : xdrop 517 (deskC d) k :=
  xdrop_app (a := .int .i64 d.l.bears :: .int .i64 d.l.shrink :: .sl d.l.nls (d.l.sacks.map skA) :: .sl d.l.nla (d.l.apart.map prA) :: .sl d.l.nlw (d.l.wth.map prA) :: nats d.hv) (b := nats d.nd) (by simp [hh]) h
theorem splice_set {c : List AV} {o : Nat} {v : AV} (ho : o < c.length) : splice c o [v] = c.set o v := by
  rw [List.set_eq_take_append_cons_drop, if_pos ho]; simp [splice]
theorem xspl_dkW {d : Dk} {o : Nat} {v : Int} {k : List AV → Prop} (i m : Nat) (ho : o = 5 + i) (hv : v = (m : Int)) (hi : i < d.hv.length) (h : k (deskC { d with hv := d.hv.set i m })) : xspl (deskC d) o [.int .i64 v] k := by
  subst hv; subst ho
  have hl : 5 + i < (deskC d).length := by simp [deskC]; omega
  refine xspl_to _ (by simp only [List.length_cons, List.length_nil]; omega) ?_ h
  rw [splice_set hl]
  unfold deskC
  rw [show 5 + i = i + 1 + 1 + 1 + 1 + 1 by omega]
  simp only [List.set_cons_succ]
  rw [List.set_append, if_pos (by simpa using hi)]
  simp only [nats, List.map_set, natA]
theorem xspl_dkN {d : Dk} {o : Nat} {v : Int} {k : List AV → Prop} (i m : Nat) (hh : d.hv.length = 512) (ho : o = 517 + i) (hv : v = (m : Int)) (hi : i < d.nd.length) (h : k (deskC { d with nd := d.nd.set i m })) : xspl (deskC d) o [.int .i64 v] k := by
  subst hv; subst ho
  have hl : 517 + i < (deskC d).length := by simp [deskC]; omega
  refine xspl_to _ (by simp only [List.length_cons, List.length_nil]; omega) ?_ h
  rw [splice_set hl]
  unfold deskC
  rw [show 517 + i = 512 + i + 1 + 1 + 1 + 1 + 1 by omega]
  simp only [List.set_cons_succ]
  rw [List.set_append, if_neg (by simp [hh]), List.length_map, hh, Nat.add_sub_cancel_left]
  simp only [nats, List.map_set, natA]
theorem xspl_dkA {d : Dk} {b : List Nat} {k : List AV → Prop} (hh : d.hv.length = 512) (h1 : d.nd.length = 9) (h2 : b.length = 9) (h : k (deskC { d with nd := b })) : xspl (deskC d) 517 (nats b) k := by
  have hl : (deskC d).length = 526 := by simp [deskC, hh, h1]
  refine xspl_to _ (by simp [hl, h2]) ?_ h
  have e : deskC d = (.int .i64 d.l.bears :: .int .i64 d.l.shrink :: .sl d.l.nls (d.l.sacks.map skA) :: .sl d.l.nla (d.l.apart.map prA) :: .sl d.l.nlw (d.l.wth.map prA) :: nats d.hv) ++ nats d.nd := rfl
  unfold splice
  rw [List.drop_eq_nil_of_le (by simp [hl, h2]), List.append_nil, e, List.take_left' (by simp [hh])]
  rfl

/-- Bundles, joined until none grows. -/
def closeF (l : Ld) : Nat → List Nat → List Nat
  | 0, b => b
  | n + 1, b => if joinR l b = b then b else closeF l n (joinR l b)
def msr (b : List Nat) : Nat := (b.map fun x => 512 - x).sum
def openD (l : Ld) : Dk := ⟨l, hvF (wts l) (2 ^ l.sacks.length), closeF l 5000 (ndI l.sacks.length)⟩
theorem joinStep_ge (b : List Nat) (p : Int × Int) (i : Nat) : b.getD i 0 ≤ (joinStep b p).getD i 0 := by
  unfold joinStep
  simp only [List.getD_eq_getElem?_getD, List.getElem?_mapIdx]
  rcases Nat.lt_or_ge i b.length with h | h
  · rw [List.getElem?_eq_getElem h]
    simp only [Option.map_some, Option.getD_some]
    split
    · exact Nat.left_le_or
    · exact Nat.le_refl _
  · rw [List.getElem?_eq_none h]; simp
theorem foldl_ge : ∀ (ps : List (Int × Int)) (b : List Nat) (i : Nat), b.getD i 0 ≤ (ps.foldl joinStep b).getD i 0
  | [], _, _ => Nat.le_refl _
  | p :: ps, b, i => by rw [List.foldl_cons]; exact Nat.le_trans (joinStep_ge b p i) (foldl_ge ps _ i)
theorem joinR_ge (l : Ld) (b : List Nat) (i : Nat) : b.getD i 0 ≤ (joinR l b).getD i 0 := foldl_ge _ _ _
theorem joinR_len (l : Ld) (b : List Nat) : (joinR l b).length = b.length := foldl_len _ _
theorem joinR_small (l : Ld) (b : List Nat) (hs : ∀ i, b.getD i 0 < 512) : ∀ i, (joinR l b).getD i 0 < 512 := by
  have := joinI_small l b hs l.wth.length
  unfold joinI at this; rwa [List.take_length] at this
theorem msr_lt : ∀ (a b : List Nat), a.length = b.length → (∀ i, a.getD i 0 ≤ b.getD i 0) → (∀ i, b.getD i 0 < 512) → a ≠ b → msr b < msr a
  | [], [], _, _, _, h => absurd rfl h
  | x :: a, y :: b, hl, h1, h2, h3 => by
    have g1 := h1 0
    have g2 := h2 0
    simp only [List.getD_cons_zero] at g1 g2
    have i1 : ∀ i, a.getD i 0 ≤ b.getD i 0 := fun i => by simpa using h1 (i + 1)
    have i2 : ∀ i, b.getD i 0 < 512 := fun i => by simpa using h2 (i + 1)
    simp only [msr, List.map_cons, List.sum_cons]
    by_cases hab : a = b
    · subst hab
      have : x ≠ y := fun e => h3 (by rw [e])
      omega
    · have := msr_lt a b (by simpa using hl) i1 i2 hab
      unfold msr at this; omega
  | [], _ :: _, hl, _, _, _ => by simp at hl
  | _ :: _, [], hl, _, _, _ => by simp at hl
theorem msr_le (b : List Nat) (hb : b.length = 9) : msr b ≤ 4608 := by
  unfold msr
  match b, hb with
  | [a1, a2, a3, a4, a5, a6, a7, a8, a9], _ => simp; omega
theorem closeF_step (l : Ld) (n : Nat) (b : List Nat) (h : joinR l b ≠ b) : closeF l (n + 1) b = closeF l n (joinR l b) := by
  show (if joinR l b = b then b else _) = _; rw [if_neg h]
theorem closeF_stop (l : Ld) (n : Nat) (b : List Nat) (h : joinR l b = b) : closeF l n b = b := by
  cases n with
  | zero => rfl
  | succ n => show (if joinR l b = b then b else _) = _; rw [if_pos h]
end GA
