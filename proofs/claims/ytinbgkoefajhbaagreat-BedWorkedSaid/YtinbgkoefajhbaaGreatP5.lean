/- Part 5 of a proof: K1, D28, Abs36, Abs37, Abs38, Abs39, Abs40, FB, F0. -/
import Derived.Test.YtinbgkoefajhbaaGreatP4
import Derived.Test.YtinbgkoefajhbaaGreatRows
section
namespace GA
open Go Go.RowKit Go.Proofs
set_option pp.deepTerms true
set_option maxRecDepth 8000
set_option linter.unusedVariables false
set_option linter.unusedSimpArgs false

theorem mixed_ok : Tryz.prog.follows .mixedOrders = true := by kernel_rfl

theorem find_none {α : Type} {p : α → Bool} {xs : List α} {d : α} (h : ∀ j, j < xs.length → p (xs.getD j d) = false) : xs.findIdx? p = none := by
  rw [List.findIdx?_eq_none_iff]; intro x hx
  obtain ⟨j, hj, rfl⟩ := List.mem_iff_getElem.1 hx
  have := h j hj; rwa [List.getD_eq_getElem?_getD, List.getElem?_eq_getElem hj] at this
theorem find_some {α : Type} {p : α → Bool} {xs : List α} {d : α} {i : Nat} (hi : i < xs.length) (hp : p (xs.getD i d) = true) (h : ∀ j, j < i → p (xs.getD j d) = false) : xs.findIdx? p = some i := by
  rw [List.findIdx?_eq_some_iff_getElem]
  refine ⟨hi, by rwa [List.getD_eq_getElem?_getD, List.getElem?_eq_getElem hi] at hp, fun j hj => ?_⟩
  have := h j hj; rw [List.getD_eq_getElem?_getD, List.getElem?_eq_getElem (by omega)] at this; simpa using this
theorem getD_mem {α : Type} {xs : List α} {d : α} {i : Nat} (hi : i < xs.length) : xs.getD i d ∈ xs := by
  rw [List.getD_eq_getElem?_getD, List.getElem?_eq_getElem hi]; exact List.getElem_mem hi
def idxR {α : Type} (p : α → Bool) (xs : List α) : Int := match xs.findIdx? p with | some i => i | none => -1
theorem idxR_pos {α : Type} {p : α → Bool} {xs : List α} : (0 ≤ idxR p xs) ↔ xs.any p = true := by
  unfold idxR
  cases h : xs.findIdx? p with
  | none => rw [List.findIdx?_eq_none_iff] at h; simp; intro x hx; simpa using h x hx
  | some i =>
    rw [List.findIdx?_eq_some_iff_getElem] at h; obtain ⟨h1, h2, _⟩ := h
    simp; exact ⟨_, List.getElem_mem h1, h2⟩

theorem idxf_int (nl : Bool) (xs : List Int) (g : FuncId) (caps : List AV) (p : Int → Bool) (hl : lowL 0 caps = true) (hx : xs.length ≤ 100000) (hp : ∀ x ∈ xs, Comp Tryz.prog g (.int .i64 x :: caps) (.bool (p x))) :
    Comp Tryz.prog 186 [.sl nl (ints xs), .fn g caps] (.int .i64 (idxR p xs)) := by
  refine Comp.body (T := tab) (res := [.tmp 4]) tab_ok [] Tryz.func186 rfl (by kernel_rfl) Tryz.ntmps186 rfl (by simp only [List.length_cons, List.length_nil]; decide) (by simp only [lowL, AV.low, lowI, hl]; rfl) ?_; conv => whnf
  refine Walk.loop tab_ok [] (fun i : Nat => i ≤ xs.length ∧ ∀ j, j < i → p (xs.getD j default) = false) (fun i => [(0, .sl nl (ints xs)), (1, .fn g caps), (7, .int .i64 xs.length), (8, .int .i64 i)]) (fun _ => []) (fun i => xs.length - i) 0 ⟨by omega, by omega⟩ rfl ⟨rfl, rfl, by simp only [List.length_map]; rfl, rfl, trivial⟩ ?_
  rintro i ⟨h2, h3⟩
  conv => whnf
  repeat' first | ((with_reducible apply XBr.dec) <;> (intro h; first | (exfalso; omega) | ((try simp only [List.length_map] at h); first | (exfalso; omega) | (conv => whnf)))) | (((with_reducible refine XIx.nat ?_ ?_ ?_); omega; (intro _; rfl)); conv => whnf) | fail
  · refine XCall.ret (hp _ (getD_mem (i := i) (d := default) (by omega))) ?_
    conv => whnf
    refine XBr.mk' ?_ ?_ <;> intro h4 <;> (conv => whnf)
    · refine XOut.int ?_
      simp only [idxR, find_some (d := default) (i := i) (by omega) h4 h3]
    · skip
      repeat' first | ((with_reducible refine XInt.i64 (by omega) (by omega) ?_); conv => whnf) | fail
      refine XAgain.go (i + 1) ⟨by omega, fun j hj => ?_⟩ (by omega) rfl ⟨rfl, rfl, rfl, rfl, trivial⟩
      by_cases hji : j = i
      · subst hji; exact h4
      · exact h3 j (by omega)
  · refine XOut.int ?_
    simp only [idxR, find_none (d := default) fun j hj => h3 j (by omega)]
theorem contf_int (nl : Bool) (xs : List Int) (g : FuncId) (caps : List AV) (p : Int → Bool) (hl : lowL 0 caps = true) (hx : xs.length ≤ 100000) (hp : ∀ x ∈ xs, Comp Tryz.prog g (.int .i64 x :: caps) (.bool (p x))) :
    Comp Tryz.prog 155 [.sl nl (ints xs), .fn g caps] (.bool (xs.any p)) := by
  refine Comp.body (T := tab) (res := [.tmp 4]) tab_ok [] Tryz.func155 rfl (by kernel_rfl) Tryz.ntmps155 rfl (by simp only [List.length_cons, List.length_nil]; decide) (by simp only [lowL, AV.low, lowI, hl]; rfl) ?_; conv => whnf
  refine XCall.ret (idxf_int nl xs g caps p hl hx hp) ?_
  conv => whnf
  refine XOut.bool ?_
  rw [Bool.eq_iff_iff, decide_eq_true_eq]; exact idxR_pos
theorem eq_of_getD {α : Type} {xs ys : List α} {d : α} (hl : xs.length = ys.length) (h : ∀ j, j < xs.length → xs.getD j d = ys.getD j d) : xs = ys := by
  apply List.ext_getElem hl
  intro j h1 h2
  have := h j h1
  rwa [List.getD_eq_getElem?_getD, List.getD_eq_getElem?_getD, List.getElem?_eq_getElem h1, List.getElem?_eq_getElem h2] at this

theorem equal_int (n1 n2 : Bool) (xs ys : List Int) (hx : xs.length ≤ 100000) : Comp Tryz.prog 127 [.sl n1 (ints xs), .sl n2 (ints ys)] (.bool (xs == ys)) := by
  refine Comp.body (T := tab) (res := [.tmp 4]) tab_ok [] Tryz.func127 rfl (by kernel_rfl) Tryz.ntmps127 rfl (by simp only [List.length_cons, List.length_nil]; decide) (by simp only [lowL, AV.low, lowI]; rfl) ?_; conv => whnf
  repeat' first | ((with_reducible apply XBr.bne) <;> (intro h; first | (exfalso; omega) | (conv => whnf))) | fail
  · refine XOut.bool ?_
    rw [Bool.eq_iff_iff]; simp; intro e; subst e; simp at h
  have hl : (xs.length : Int) = ys.length := by simpa using h
  refine Walk.loop tab_ok [] (fun i : Nat => i ≤ xs.length ∧ ∀ j, j < i → xs.getD j default = ys.getD j default) (fun i => [(0, .sl n1 (ints xs)), (1, .sl n2 (ints ys)), (12, .int .i64 xs.length), (13, .int .i64 i)]) (fun _ => []) (fun i => xs.length - i) 0 ⟨by omega, by omega⟩ rfl ⟨rfl, rfl, by simp only [List.length_map]; rfl, rfl, trivial⟩ ?_
  rintro i ⟨h2, h3⟩
  conv => whnf
  repeat' first | ((with_reducible apply XBr.dec) <;> (intro h; first | (exfalso; omega) | ((try simp only [List.length_map] at h); first | (exfalso; omega) | (conv => whnf)))) | fail
  · apply Walk.drawX tab_ok mixed_ok [] [] (fun _ => []) [_, _, _, _, _, _, _, _, _] (by kernel_rfl) rfl
    · skip
      repeat' first | (((with_reducible refine XIx.nat ?_ ?_ ?_); omega; (intro _; rfl)); conv => whnf) | (with_reducible apply XAnd.mk) | ((first | (with_reducible apply Chk.go) | (with_reducible apply ChkA.go)); conv => whnf) | (exact XSame.mk rfl rfl) | (with_reducible exact trivial) | fail
    · skip
      repeat' first | (with_reducible apply XAnd.mk) | ((first | (with_reducible apply ChkF.go) | (with_reducible apply ChkB.go)); conv => whnf) | (with_reducible exact trivial) | fail
    · conv => whnf
      repeat' first | ((with_reducible apply XBr.bne) <;> (intro h; first | (exfalso; omega) | (conv => whnf))) | ((with_reducible refine XInt.i64 (by omega) (by omega) ?_); conv => whnf) | fail
      · refine XOut.bool ?_
        rw [Bool.eq_iff_iff]; simp
        intro e; subst e; exact h rfl
      · refine XAgain.go (i + 1) ⟨by omega, fun j hj => ?_⟩ (by omega) rfl ⟨rfl, rfl, rfl, rfl, trivial⟩
        by_cases hji : j = i
        · subst hji; exact h
        · exact h3 j (by omega)
  · refine XOut.bool ?_
    have := eq_of_getD (by omega) fun j hj => h3 j (by omega)
    rw [this]; simp
theorem eq_int (n1 n2 : Bool) (xs ys : List Int) (hx : xs.length ≤ 100000) : Comp Tryz.prog 42 [.sl n1 (ints xs), .sl n2 (ints ys)] (.bool (xs == ys)) := by
  refine Comp.body (T := tab) (res := [.tmp 4]) tab_ok [] Tryz.func42 rfl (by kernel_rfl) Tryz.ntmps42 rfl (by simp only [List.length_cons, List.length_nil]; decide) (by simp only [lowL, AV.low, lowI]; rfl) ?_; conv => whnf
  refine XCall.ret (equal_int n1 n2 xs ys hx) ?_
  conv => whnf
  exact XOut.bool rfl

theorem dup_int (nl : Bool) (xs : List Int) (hx : xs.length ≤ 100000) : Comp Tryz.prog 139 [.sl nl (ints xs)] (.sl false (ints xs)) := by
  refine Comp.body (T := tab) (res := [.tmp 2]) tab_ok [] Tryz.func139 rfl (by kernel_rfl) Tryz.ntmps139 rfl (by simp only [List.length_cons, List.length_nil]; decide) (by simp only [lowL, AV.low, lowI]; rfl) ?_; conv => whnf
  refine XHold.mk ⟨by omega, by simp, by unfold Room; simp; omega⟩ ?_
  conv => whnf
  refine XHold.mk (wideI xs) ?_
  conv => whnf
  refine XHold.mk ⟨rfl, rfl, by unfold Room; simp; omega⟩ ?_
  conv => whnf
  exact ⟨Froz.grow rfl (by simp) (lowI xs)⟩

def keptL (xs : List Int) (g : Int) : List Int := xs.filter fun x => decide (g ≤ x)
theorem kept_next {xs : List Int} {g : Int} {i : Nat} (h : i < xs.length) : keptL (xs.take (i + 1)) g = if g ≤ xs.getD i default then keptL (xs.take i) g ++ [xs.getD i default] else keptL (xs.take i) g := by
  unfold keptL; rw [take_next h, List.filter_append]
  by_cases hg : g ≤ xs.getD i default
  · rw [if_pos hg, List.filter_cons_of_pos (by simpa only [decide_eq_true_eq] using hg)]; rfl
  · rw [if_neg hg, List.filter_cons_of_neg (by simpa only [decide_eq_true_eq] using hg)]; simp only [List.filter_nil, List.append_nil]
def slA (xs : List Int) : AV := .sl xs.isEmpty (ints xs)
structure Sk where
  m : Int
  o : Int
  deriving Inhabited, DecidableEq
def skA (s : Sk) : AV := .agg [.int .i64 s.m, .int .i64 s.o]
def prA (p : Int × Int) : AV := .agg [.int .i64 p.1, .int .i64 p.2]
theorem lowPr {n : Nat} (xs : List (Int × Int)) : lowL n (xs.map prA) = true := lowL_map (fun _ => rfl) xs
theorem wideSk (xs : List Sk) : wide 2 (xs.map skA) = true := wide_map (f := skA) (n := 2) (fun _ => rfl) (fun _ => rfl) xs
theorem widePr (xs : List (Int × Int)) : wide 2 (xs.map prA) = true := wide_map (f := prA) (n := 2) (fun _ => rfl) (fun _ => rfl) xs


structure Ld where
  bears : Int
  shrink : Int
  nls : Bool
  sacks : List Sk
  nla : Bool
  apart : List (Int × Int)
  nlw : Bool
  wth : List (Int × Int)
def weightR (l : Ld) (s : Sk) : Int := s.m - s.m * l.shrink / 100
def bitsF : Nat → Nat → Nat → List Int
  | 0, _, _ => []
  | f + 1, i, s => if s = 0 then [] else if s % 2 = 1 then (i : Int) :: bitsF f (i + 1) (s / 2) else bitsF f (i + 1) (s / 2)
def bits (s : Nat) : List Int := bitsF 62 0 s
theorem wrap_nat {n : Nat} (h : n < 9223372036854775808) : IntKind.i64.wrap (n : Int) = n := by
  simp only [IntKind.wrap, IntKind.bits, IntKind.signed]; simp; omega
theorem bv_nat (a : Nat) : BitVec.ofInt IntKind.i64.bits (a : Int) = BitVec.ofNat 64 a := BitVec.ofInt_natCast ..
theorem iand_nat {a b : Nat} (ha : a < 9223372036854775808) (hb : b < 9223372036854775808) : iand .i64 a b = ((a &&& b : Nat) : Int) := by
  have h : a &&& b < 9223372036854775808 := Nat.lt_of_le_of_lt Nat.and_le_left ha
  unfold iand
  rw [bv_nat, bv_nat]
  have : (BitVec.ofNat 64 a &&& BitVec.ofNat 64 b).toNat = a &&& b := by
    rw [BitVec.toNat_and, BitVec.toNat_ofNat, BitVec.toNat_ofNat, Nat.mod_eq_of_lt (by omega), Nat.mod_eq_of_lt (by omega)]
  exact (congrArg (fun n : Nat => IntKind.i64.wrap (n : Int)) this).trans (wrap_nat h)
theorem ior_nat {a b : Nat} (ha : a < 9223372036854775808) (hb : b < 9223372036854775808) : ior .i64 a b = ((a ||| b : Nat) : Int) := by
  have h : a ||| b < 2 ^ 63 := Nat.or_lt_two_pow (n := 63) (by omega) (by omega)
  unfold ior
  rw [bv_nat, bv_nat]
  have : (BitVec.ofNat 64 a ||| BitVec.ofNat 64 b).toNat = a ||| b := by
    rw [BitVec.toNat_or, BitVec.toNat_ofNat, BitVec.toNat_ofNat, Nat.mod_eq_of_lt (by omega), Nat.mod_eq_of_lt (by omega)]
  exact (congrArg (fun n : Nat => IntKind.i64.wrap (n : Int)) this).trans (wrap_nat (by omega))
def diff (a b : Nat) : Nat := a ^^^ (a &&& b)
theorem iandn_nat {a b : Nat} (ha : a < 9223372036854775808) (hb : b < 9223372036854775808) : iandn .i64 a b = ((diff a b : Nat) : Int) := by
  have h0 : a &&& b < 2 ^ 63 := Nat.lt_of_le_of_lt Nat.and_le_left (by omega)
  have h : a ^^^ (a &&& b) < 2 ^ 63 := Nat.xor_lt_two_pow (n := 63) (by omega) h0
  unfold iandn
  rw [bv_nat, bv_nat]
  have hbv : BitVec.ofNat 64 a &&& ~~~ (BitVec.ofNat 64 b) = BitVec.ofNat 64 a ^^^ (BitVec.ofNat 64 a &&& BitVec.ofNat 64 b) := by
    apply BitVec.eq_of_getLsbD_eq; intro i hi; simp
    cases (BitVec.ofNat 64 a).getLsbD i <;> cases (BitVec.ofNat 64 b).getLsbD i <;> simp_all
  have : (BitVec.ofNat 64 a &&& ~~~ (BitVec.ofNat 64 b)).toNat = a ^^^ (a &&& b) := by
    rw [hbv, BitVec.toNat_xor, BitVec.toNat_and, BitVec.toNat_ofNat, BitVec.toNat_ofNat, Nat.mod_eq_of_lt (by omega), Nat.mod_eq_of_lt (by omega)]
  exact (congrArg (fun n : Nat => IntKind.i64.wrap (n : Int)) this).trans (wrap_nat (by omega))
theorem shl_nat {k : Nat} (hk : k ≤ 64) : (1 : Int) * 2 ^ (min (k : Int).toNat IntKind.i64.bits) = ((2 ^ k : Nat) : Int) := by
  have : min (k : Int).toNat IntKind.i64.bits = k := by simp only [Int.toNat_natCast, IntKind.bits]; omega
  rw [this]; simp
def natA (n : Nat) : AV := .int .i64 n
structure Dk where
  l : Ld
  hv : List Nat
  nd : List Nat
theorem bitsF_bound : ∀ (f i s k : Nat), s < 2 ^ k → ∀ x ∈ bitsF f i s, (i : Int) ≤ x ∧ x < (i + k : Nat)
  | 0, _, _, _, _, x, hx => by simp [bitsF] at hx
  | f + 1, i, s, k, hs, x, hx => by
    unfold bitsF at hx
    split at hx
    · simp at hx
    · rename_i h0
      cases k with
      | zero => simp at hs; omega
      | succ k =>
        have ih := bitsF_bound f (i + 1) (s / 2) k (by rw [Nat.pow_succ] at hs; omega)
        split at hx
        · rcases List.mem_cons.1 hx with rfl | hx
          · omega
          · have := ih x hx; omega
        · have := ih x hx; omega
def joinStep (b : List Nat) (p : Int × Int) : List Nat :=
  let all := b.getD p.1.toNat 0 ||| b.getD p.2.toNat 0
  b.mapIdx fun i x => if all / 2 ^ i % 2 = 1 then x ||| all else x
def hsK (H : List Blk) : List Bool → List Blk := fun _ => H
theorem joinStep_len (b : List Nat) (p : Int × Int) : (joinStep b p).length = b.length := by simp [joinStep]
theorem XInt.eq {x y : Int} {k : AV → Prop} (e : x = y) (h1 : -9223372036854775808 ≤ y) (h2 : y ≤ 9223372036854775807) (h : k (.int .i64 y)) : XInt .i64 x k := by subst e; exact .i64 h1 h2 h
theorem pow9 {n : Nat} (h : n ≤ 9) : 2 ^ n ≤ 512 ∧ 0 < 2 ^ n := ⟨Nat.pow_le_pow_right (n := 2) (by omega) h, Nat.two_pow_pos n⟩
theorem AYield.mono {P : Program} {i : Nat} {rs : List AV} {H : List Blk} {k k' : AV → List Blk → Prop} (x : AYield P i rs H k) (hk : ∀ r H', k r H' → k' r H') : AYield P i rs H k' :=
  ⟨x.1, fun E h β w b vs s r e => let ⟨f, tmps, assign, body, h1, h2⟩ := x.2 E h β w b vs s r e; ⟨f, tmps, assign, body, h1, h2.mono fun _ _ => Ends.mono hk⟩⟩
def IterOk (P : Program) (i : Nat) (K : List Blk → Prop) : List Nat → List Blk → Prop
  | [], H => K H
  | c :: cs, H => XYield P i [natA c] H fun r H' => (r = .bool true ∧ IterOk P i K cs H') ∨ (r = .bool false ∧ K H')

def sumW : List Nat → Nat → Nat
  | [], _ => 0
  | w :: ws, s => (if s % 2 = 1 then w else 0) + sumW ws (s / 2)
def wt (l : Ld) (s : Sk) : Nat := (weightR l s).toNat
def wts (l : Ld) : List Nat := l.sacks.map (wt l)
theorem sumW_zero : ∀ ws : List Nat, sumW ws 0 = 0
  | [] => rfl
  | w :: ws => by unfold sumW; rw [Nat.zero_div, sumW_zero ws]; rfl
structure LdOk (l : Ld) : Prop where
  n : l.sacks.length ≤ 9
  na : l.apart.length ≤ 8
  nw : l.wth.length ≤ 8
  b1 : 1 ≤ l.bears
  b2 : l.bears ≤ 100
  s1 : 0 ≤ l.shrink
  s2 : l.shrink ≤ 90
  sk : ∀ s ∈ l.sacks, 1 ≤ s.m ∧ s.m ≤ 100 ∧ 0 ≤ s.o ∧ s.o ≤ 5
  ap : ∀ p ∈ l.apart, 0 ≤ p.1 ∧ p.1 < l.sacks.length ∧ 0 ≤ p.2 ∧ p.2 < l.sacks.length ∧ p.1 ≠ p.2
  wp : ∀ p ∈ l.wth, 0 ≤ p.1 ∧ p.1 < l.sacks.length ∧ 0 ≤ p.2 ∧ p.2 < l.sacks.length ∧ p.1 ≠ p.2
theorem wt_le {l : Ld} (o : LdOk l) {s : Sk} (hs : s ∈ l.sacks) : (wt l s : Int) = weightR l s ∧ 1 ≤ wt l s ∧ wt l s ≤ 100 := by
  have h := o.sk s hs
  have h1 := o.s1
  have h2 := o.s2
  have e : s.m * l.shrink ≤ s.m * 90 := Int.mul_le_mul_of_nonneg_left h2 (by omega)
  have e0 : 0 ≤ s.m * l.shrink := Int.mul_nonneg (by omega) h1
  unfold wt weightR
  omega
theorem IterOk.run {P : Program} {i : Nat} {H : List Blk} {K : List Blk → Prop} {S : Type} (upd : List Blk → S → List Blk) (step : S → Nat → S) (I : S → List Nat → Prop)
    (x : ∀ s c cs, I s (c :: cs) → XYield P i [natA c] (upd H s) (fun r H' => r = .bool true ∧ H' = upd H (step s c)) ∧ I (step s c) cs) :
    ∀ (cs : List Nat) (s : S), I s cs → K (upd H (cs.foldl step s)) → IterOk P i K cs (upd H s)
  | [], s, _, hk => hk
  | c :: cs, s, hI, hk => by
    obtain ⟨h1, h2⟩ := x s c cs hI
    refine ⟨AYield.mono h1.o ?_⟩
    rintro r H' ⟨rfl, rfl⟩
    exact .inl ⟨rfl, IterOk.run upd step I x cs _ h2 hk⟩
theorem IterOk.go {P : Program} {i : Nat} {H : List Blk} {K : List Blk → Prop} {S : Type} {cs : List Nat} (upd : List Blk → S → List Blk) (step : S → Nat → S) (I : S → List Nat → Prop) (s0 : S) (hH : upd H s0 = H)
    (x : ∀ s c cs, I s (c :: cs) → XYield P i [natA c] (upd H s) (fun r H' => r = .bool true ∧ H' = upd H (step s c)) ∧ I (step s c) cs) (hI : I s0 cs) (hk : K (upd H (cs.foldl step s0))) : IterOk P i K cs H := by
  have := IterOk.run upd step I x cs s0 hI hk
  rwa [hH] at this
structure MOk (m : List (Int × Nat)) : Prop where
  z : look 0 m = some 0
  le : ∀ k v, look k m = some v → v ≤ 10
theorem diff_bit (a b i : Nat) : (diff a b).testBit i = (a.testBit i && !b.testBit i) := by
  unfold diff; simp only [Nat.testBit_xor, Nat.testBit_and]
  cases a.testBit i <;> cases b.testBit i <;> rfl
def Sub (a b : Nat) : Prop := ∀ i, a.testBit i = true → b.testBit i = true
theorem Sub.le {a b : Nat} (h : Sub a b) : a ≤ b := by
  have : a &&& b = a := by
    apply Nat.eq_of_testBit_eq; intro i; rw [Nat.testBit_and]
    cases e : a.testBit i
    · rfl
    · rw [h i e]; rfl
  rw [← this]; exact Nat.and_le_right
structure LS where
  left : Nat
  m : List (Int × Nat)
  out : List Nat
theorem MOk.zero : MOk [(0, 0)] := ⟨rfl, fun k v h => by simp only [look] at h; split at h <;> cases h; omega⟩
theorem Sub.zero (a : Nat) : Sub 0 a := fun i h => by rw [Nat.zero_testBit] at h; cases h
abbrev bytes (xs : List Int) : List AV := xs.map (.int .u8)
theorem lowBy {n : Nat} (xs : List Int) : lowL n (bytes xs) = true := lowL_map (fun _ => rfl) xs
structure Hp where
  nl : Bool
  bs : List Int
  nx : Nat
  rd : Int
  deriving Inhabited
def hpC (h : Hp) : Blk := .cells [.sl h.nl (bytes h.bs), .int .i64 h.nx, .int .u32 h.rd]
structure Hp.Ok (h : Hp) : Prop where
  l : h.bs.length < 9223372036854775808
  n : h.nx < h.bs.length ∨ h.nx = 0
def hpN (h : Hp) : Int := IntKind.u32.wrap (40503 * IntKind.u32.wrap (h.rd + 1))
def hpM (h : Hp) : Int := if h.nx < h.bs.length then IntKind.u32.wrap (hpN h + IntKind.u32.wrap (331 * IntKind.u32.wrap (h.bs.getD h.nx default))) else hpN h
def hpV' (n : Int) : Int := iand .u32 (ixor .u32 n (n.fdiv (2 ^ (min (9 : Int).toNat IntKind.u32.bits)))) 32767
def hpV (h : Hp) : Int := hpV' (hpM h)
def hpS (h : Hp) : Hp := if h.bs.length ≤ h.nx + 1 then ⟨h.nl, h.bs, 0, IntKind.u32.wrap (h.rd + 1)⟩ else ⟨h.nl, h.bs, h.nx + 1, h.rd⟩
theorem hpV_bound (n : Int) : 0 ≤ hpV' n ∧ hpV' n ≤ 32767 := by
  unfold hpV' iand
  have h1 : (BitVec.ofInt IntKind.u32.bits (ixor .u32 n (n.fdiv (2 ^ (min (9 : Int).toNat IntKind.u32.bits)))) &&& BitVec.ofInt IntKind.u32.bits 32767).toNat ≤ 32767 := by
    rw [BitVec.toNat_and]
    exact Nat.le_trans Nat.and_le_right (by decide)
  generalize (BitVec.ofInt IntKind.u32.bits (ixor .u32 n (n.fdiv (2 ^ (min (9 : Int).toNat IntKind.u32.bits)))) &&& BitVec.ofInt IntKind.u32.bits 32767).toNat = m at h1 ⊢
  simp only [IntKind.wrap, IntKind.bits, IntKind.signed]
  constructor <;> simp <;> omega
theorem hpS_ok {h : Hp} (o : h.Ok) : (hpS h).Ok := by
  unfold hpS; split
  · exact ⟨o.l, .inr rfl⟩
  · exact ⟨o.l, .inl (by dsimp only; omega)⟩
theorem hpC_low {n : Nat} (h : Hp) : (hpC h).low n = true := by simp only [hpC, Blk.low, lowL, AV.low, lowBy]; rfl
theorem hpC_ren (f : Nat → Nat) (h : Hp) : (hpC h).ren f = hpC h := Blk.ren_low (n := 0) (fun i hi => by omega) (hpC_low h)

theorem XInt.w {q : IntKind} {x : Int} {k : AV → Prop} (h : k (.int q (q.wrap x))) : XInt q x k := ⟨h⟩

def HpOk (f : FuncId) (qs : List AV) (h : Hp) (r : AV) (h' : Hp) : Prop :=
  lowL 0 qs = true ∧ ACall Tryz.prog f (.ptr 0 0 :: qs) [hpC h] fun r' H' => r' = r ∧ H' = [hpC h']
theorem XCall.hp {f : FuncId} {qs : List AV} {h h' : Hp} {r : AV} (x : HpOk f qs h r h') (hr : r.low 0 = true) {H : List Blk} {k : AV → List Blk → Prop} {j : Nat} (h0 : lget H j = some (hpC h))
    (hk : k r (H.set j (hpC h'))) : XCall Tryz.prog f (.ptr j 0 :: qs) H k := by
  constructor
  have e := ACall.frame (ρ := fun i => j + i) (H := H) (k := k) x.2 (fun a b _ _ h => by have : j + a = j + b := h; omega) ?_ (fun y hy => by simp at hy; subst hy; exact hpC_low h) ?_ ?_
  · have hd : renL (fun i => j + i) qs = qs := renL_low0 x.1
    rw [List.map_cons, ← renL_eq, hd] at e
    exact e
  · intro i x1 hi
    rw [lget_eq] at h0
    rcases i with _ | i
    · simp only [List.getElem?_cons_zero, Option.some.injEq] at hi; subst hi
      rw [hpC_ren]; exact h0
    · simp at hi
  · simp only [lowL, AV.low, lowL_mono (Nat.zero_le _) x.1]; rfl
  · rintro r1 H1' ⟨rfl, rfl⟩
    rw [lget_eq] at h0
    have hj := (List.getElem?_eq_some_iff.1 h0).1
    refine ⟨rfl, H.set j (hpC h'), by simp, fun i x1 hi => ?_, fun q hq => ?_, ?_⟩
    · rcases i with _ | i
      · simp only [List.getElem?_cons_zero, Option.some.injEq] at hi; subst hi
        rw [hpC_ren]; simp [hj]
      · simp at hi
    · exact List.getElem?_set_ne (by have := hq 0 (by simp); simpa using this)
    · rw [AV.ren_low (n := 0) (fun i hi => by omega) hr]; exact hk

theorem hpM_lt {u : Hp} (h : (u.nx : Int) < u.bs.length) : hpM u = IntKind.u32.wrap (hpN u + IntKind.u32.wrap (331 * IntKind.u32.wrap (u.bs.getD u.nx default))) := if_pos (by omega)
theorem hpM_ge {u : Hp} (h : ¬ (u.nx : Int) < u.bs.length) : hpM u = hpN u := if_neg (by omega)
theorem hpS_end {u : Hp} (h : (u.bs.length : Int) ≤ u.nx + 1) : [hpC (hpS u)] = [Blk.cells [AV.sl u.nl (bytes u.bs), AV.int IntKind.i64 0, AV.int IntKind.u32 (IntKind.u32.wrap (u.rd + 1))]] := by
  unfold hpS; rw [if_pos (by omega)]; rfl
theorem hpS_on {u : Hp} (h : ¬ (u.bs.length : Int) ≤ u.nx + 1) : [hpC (hpS u)] = [Blk.cells [AV.sl u.nl (bytes u.bs), AV.int IntKind.i64 (u.nx + 1), AV.int IntKind.u32 u.rd]] := by
  unfold hpS; rw [if_neg (by omega)]; rfl
theorem i64_small {n : Int} (h1 : 0 ≤ n) (h2 : n ≤ 32767) : IntKind.i64.wrap n = n := by
  simp only [IntKind.wrap, IntKind.bits, IntKind.signed]; simp; omega
theorem pick_end {u : Hp} {n : Int} {H1 : List Blk} (hn : hpM u = n) (hS : [hpC (hpS u)] = H1) : XCut [hpC u].length [] H1 (.int .i64 (IntKind.i64.wrap (hpV' n))) fun r' H' => r' = .int .i64 (hpV u) ∧ H' = [hpC (hpS u)] := by
  subst hn; subst hS
  obtain ⟨h1, h2⟩ := hpV_bound (hpM u)
  rw [i64_small h1 h2]
  exact XCut.mk' [hpC (hpS u)] [] rfl rfl (fun x hx => by simp only [List.mem_cons, List.not_mem_nil, or_false] at hx; subst hx; exact hpC_low _) rfl ⟨rfl, rfl⟩
theorem pick_c (u : Hp) (o : u.Ok) : HpOk 158 [] u (.int .i64 (hpV u)) (hpS u) := by
  have hl := o.l
  have hn := o.n
  refine ⟨rfl, ?_⟩
  refine ACall.bodyK (T := tab) (res := [.tmp 2]) tab_ok [] Tryz.func158 rfl (by kernel_rfl) Tryz.ntmps158 rfl (by simp only [List.length_cons, List.length_nil]; decide) ?_; conv => whnf
  repeat' first | ((refine XInt.w ?_); conv => whnf) | fail
  apply Walk.drawX tab_ok mixed_ok [] [] (hsK _) [_, _, _, _, _, _, _, _, _, _] (by kernel_rfl) rfl
  · skip
    repeat' first | (with_reducible apply XAnd.mk) | ((first | (with_reducible apply Chk.go) | (with_reducible apply ChkA.go)); conv => whnf) | (exact XSame.mk rfl rfl) | (with_reducible exact trivial) | fail
  · skip
    repeat' first | (with_reducible apply XAnd.mk) | ((first | (with_reducible apply ChkF.go) | (with_reducible apply ChkB.go)); conv => whnf) | (with_reducible exact trivial) | fail
  · conv => whnf
    repeat' first | ((with_reducible apply XBr.dec) <;> (intro h; first | (exfalso; omega) | ((try simp only [List.length_map] at h); first | (exfalso; omega) | (conv => whnf)))) | ((with_reducible refine XInt.i64 (by omega) (by omega) ?_); conv => whnf) | fail
    · apply Walk.drawX tab_ok mixed_ok [] [] (hsK _) [_, _, _, _, _, _, _, _, _, _, _, _, _, _, _] (by kernel_rfl) rfl
      · skip
        repeat' first | (((with_reducible refine XIx.nat ?_ ?_ ?_); omega; (intro _; rfl)); conv => whnf) | (with_reducible apply XAnd.mk) | ((first | (with_reducible apply Chk.go) | (with_reducible apply ChkA.go)); conv => whnf) | (exact XSame.mk rfl rfl) | (with_reducible exact trivial) | ((refine XInt.w ?_); conv => whnf) | fail
      · skip
        repeat' first | (with_reducible apply XAnd.mk) | ((first | (with_reducible apply ChkF.go) | (with_reducible apply ChkB.go)); conv => whnf) | (with_reducible exact trivial) | fail
      · conv => whnf
        repeat' first | ((with_reducible refine XInt.i64 (by omega) (by omega) ?_); conv => whnf) | fail
        apply Walk.drawX tab_ok mixed_ok [] [] (hsK _) [_, _, _, _, _, _, _, _, _, _] (by kernel_rfl) rfl
        · skip
          repeat' first | (with_reducible apply XAnd.mk) | ((first | (with_reducible apply Chk.go) | (with_reducible apply ChkA.go)); conv => whnf) | (exact XSame.mk rfl rfl) | (with_reducible exact trivial) | fail
        · skip
          repeat' first | (with_reducible apply XAnd.mk) | ((first | (with_reducible apply ChkF.go) | (with_reducible apply ChkB.go)); conv => whnf) | (with_reducible exact trivial) | fail
        · conv => whnf
          repeat' first | ((with_reducible apply XBr.dec) <;> (intro h; first | (exfalso; omega) | ((try simp only [List.length_map] at h); first | (exfalso; omega) | (conv => whnf)))) | ((with_reducible refine XHold.mk ?_ ?_); (first | omega | rfl | decide | exact ⟨rfl, by decide, rfl⟩ | exact wideI _ | exact widePr _ | exact wideSk _ | (unfold Room; constructor <;> ((try simp) <;> omega)) | exact ⟨rfl, by simp only [List.length_map], by unfold Room; constructor <;> ((try simp) <;> omega)⟩ | exact ⟨by omega, by omega, by unfold Room; constructor <;> ((try simp) <;> omega)⟩); conv => whnf) | ((refine XInt.w ?_); conv => whnf) | fail
          · exact pick_end (hpM_lt (by assumption)) (hpS_end h)
          · exact pick_end (hpM_lt (by assumption)) (hpS_on h)
    · skip
      apply Walk.drawX tab_ok mixed_ok [] [] (hsK _) [_, _, _, _, _, _, _, _, _, _] (by kernel_rfl) rfl
      · skip
        repeat' first | (with_reducible apply XAnd.mk) | ((first | (with_reducible apply Chk.go) | (with_reducible apply ChkA.go)); conv => whnf) | (exact XSame.mk rfl rfl) | (with_reducible exact trivial) | fail
      · skip
        repeat' first | (with_reducible apply XAnd.mk) | ((first | (with_reducible apply ChkF.go) | (with_reducible apply ChkB.go)); conv => whnf) | (with_reducible exact trivial) | fail
      · conv => whnf
        repeat' first | ((with_reducible apply XBr.dec) <;> (intro h; first | (exfalso; omega) | ((try simp only [List.length_map] at h); first | (exfalso; omega) | (conv => whnf)))) | ((with_reducible refine XHold.mk ?_ ?_); (first | omega | rfl | decide | exact ⟨rfl, by decide, rfl⟩ | exact wideI _ | exact widePr _ | exact wideSk _ | (unfold Room; constructor <;> ((try simp) <;> omega)) | exact ⟨rfl, by simp only [List.length_map], by unfold Room; constructor <;> ((try simp) <;> omega)⟩ | exact ⟨by omega, by omega, by unfold Room; constructor <;> ((try simp) <;> omega)⟩); conv => whnf) | ((refine XInt.w ?_); conv => whnf) | fail
        · exact pick_end (hpM_ge (by assumption)) (hpS_end h)

def modV (h : Hp) (n : Int) : Int := (hpV h).tmod (max 1 (n + 1))
theorem modV_bound (h : Hp) (n : Int) : 0 ≤ modV h n ∧ modV h n ≤ max 0 n := by
  have hb := hpV_bound (hpM h)
  have h1 : 0 ≤ hpV h := hb.1
  unfold modV
  rw [Int.tmod_eq_emod_of_nonneg h1]
  have h2 := Int.emod_nonneg (hpV h) (show max 1 (n + 1) ≠ 0 by omega)
  have h3 := Int.emod_lt_of_pos (hpV h) (show 0 < max 1 (n + 1) by omega)
  omega
theorem hp_end {u u' : Hp} {r : AV} (hr : r.low 1 = true) : XCut [hpC u].length [] [hpC u'] r fun r' H' => r' = r ∧ H' = [hpC u'] :=
  XCut.mk' [hpC u'] [] rfl rfl (fun x hx => by simp only [List.mem_cons, List.not_mem_nil, or_false] at hx; subst hx; exact hpC_low _) hr ⟨rfl, rfl⟩
theorem upto_c (u : Hp) (n : Int) (o : u.Ok) (h1 : -100000 ≤ n) (h2 : n ≤ 100000) : HpOk 92 [.int .i64 n] u (.int .i64 (modV u n)) (hpS u) := by
  refine ⟨rfl, ?_⟩
  refine ACall.bodyK (T := tab) (res := [.tmp 4]) tab_ok [] Tryz.func92 rfl (by kernel_rfl) Tryz.ntmps92 rfl (by simp only [List.length_cons, List.length_nil]; decide) ?_; conv => whnf
  refine XCall.hp (j := 0) (pick_c u o) rfl rfl ?_
  conv => whnf
  repeat' first | ((with_reducible refine XInt.i64 (by omega) (by omega) ?_); conv => whnf) | ((with_reducible refine XHold.mk ?_ ?_); (first | omega | rfl | decide | exact ⟨rfl, by decide, rfl⟩ | exact wideI _ | exact widePr _ | exact wideSk _ | (unfold Room; constructor <;> ((try simp) <;> omega)) | exact ⟨rfl, by simp only [List.length_map], by unfold Room; constructor <;> ((try simp) <;> omega)⟩ | exact ⟨by omega, by omega, by unfold Room; constructor <;> ((try simp) <;> omega)⟩); conv => whnf) | fail
  exact hp_end rfl
theorem from_c (u : Hp) (lo hi : Int) (o : u.Ok) (h1 : -10000 ≤ lo) (h2 : lo ≤ 10000) (h3 : -10000 ≤ hi) (h4 : hi ≤ 10000) : HpOk 91 [.int .i64 lo, .int .i64 hi] u (.int .i64 (lo + modV u (hi - lo))) (hpS u) := by
  have hb := modV_bound u (hi - lo)
  refine ⟨rfl, ?_⟩
  refine ACall.bodyK (T := tab) (res := [.tmp 6]) tab_ok [] Tryz.func91 rfl (by kernel_rfl) Tryz.ntmps91 rfl (by simp only [List.length_cons, List.length_nil]; decide) ?_; conv => whnf
  repeat' first | ((first | (with_reducible refine XInt.i64 (by omega) (by omega) ?_) | (refine XCall.hp (j := 0) (upto_c u (hi - lo) o (by omega) (by omega)) rfl rfl ?_)); conv => whnf) | fail
  exact hp_end rfl
theorem once_c (u : Hp) (n : Int) (o : u.Ok) (h1 : -10000 ≤ n) (h2 : n ≤ 10000) : HpOk 94 [.int .i64 n] u (.bool (modV u (n - 1) == 0)) (hpS u) := by
  have hb := modV_bound u (n - 1)
  refine ⟨rfl, ?_⟩
  refine ACall.bodyK (T := tab) (res := [.tmp 4]) tab_ok [] Tryz.func94 rfl (by kernel_rfl) Tryz.ntmps94 rfl (by simp only [List.length_cons, List.length_nil]; decide) ?_; conv => whnf
  repeat' first | ((first | (with_reducible refine XInt.i64 (by omega) (by omega) ?_) | (refine XCall.hp (j := 0) (upto_c u (n - 1) o (by omega) (by omega)) rfl rfl ?_)); conv => whnf) | fail
  exact hp_end rfl
theorem isEmpty_app {α : Type} (l : List α) (x : α) : (l ++ [x]).isEmpty = (l.isEmpty && false) := by cases l <;> rfl
def hp0 (nl : Bool) (bs : List Int) : Hp := ⟨nl, bs, 0, 0⟩
theorem hp0_ok {nl : Bool} {bs : List Int} (h : bs.length < 9223372036854775808) : (hp0 nl bs).Ok := ⟨h, .inr rfl⟩
def Fle (a b : Int × Int) : Prop := a.1 * b.2 ≤ b.1 * a.2
theorem Fle.refl (a : Int × Int) : Fle a a := Int.le_refl _
theorem Fle.trans {a b c : Int × Int} (h1 : Fle a b) (h2 : Fle b c) (ha : 0 ≤ a.2) (hb : 0 < b.2) (hc : 0 ≤ c.2) : Fle a c := by
  unfold Fle at *
  have e1 : a.1 * b.2 * c.2 ≤ b.1 * a.2 * c.2 := Int.mul_le_mul_of_nonneg_right h1 hc
  have e2 : b.1 * c.2 * a.2 ≤ c.1 * b.2 * a.2 := Int.mul_le_mul_of_nonneg_right h2 ha
  have e3 : a.1 * c.2 * b.2 ≤ c.1 * a.2 * b.2 := by
    calc a.1 * c.2 * b.2 = a.1 * b.2 * c.2 := by rw [Int.mul_right_comm]
      _ ≤ b.1 * a.2 * c.2 := e1
      _ = b.1 * c.2 * a.2 := by rw [Int.mul_right_comm]
      _ ≤ c.1 * b.2 * a.2 := e2
      _ = c.1 * a.2 * b.2 := by rw [Int.mul_right_comm]
  exact Int.le_of_mul_le_mul_right e3 hb
theorem bit_ext {a b : Nat} (h : ∀ i, a.testBit i = b.testBit i) : a = b := Nat.eq_of_testBit_eq h
theorem Sub.refl (a : Nat) : Sub a a := fun _ h => h
theorem Sub.trans {a b c : Nat} (h : Sub a b) (k : Sub b c) : Sub a c := fun i x => k i (h i x)
theorem sub_half {a m : Nat} (h : Sub a m) : Sub (a / 2) (m / 2) := fun i x => by
  have := h (i + 1) (by rw [Nat.testBit_succ]; exact x)
  rwa [Nat.testBit_succ] at this
theorem sub_odd {a m : Nat} (h : Sub a m) : a % 2 ≤ m % 2 := by
  have := h 0
  simp only [Nat.testBit_zero, decide_eq_true_eq] at this
  omega
theorem sub_diff (s c : Nat) : Sub (diff s c) s := fun i h => by rw [diff_bit, Bool.and_eq_true] at h; exact h.1
inductive Pk (R : Nat → Bool) : Nat → Nat → Prop
  | nil : Pk R 0 0
  | cons {n set : Nat} (c : Nat) (hr : R c = true) (hs : Sub c set) (h0 : c ≠ 0) (t : Pk R n (diff set c)) : Pk R (n + 1) set
theorem diff_diff (s a b : Nat) : diff (diff s a) b = diff (diff s b) a := bit_ext fun i => by
  simp only [diff_bit]; cases s.testBit i <;> cases a.testBit i <;> cases b.testBit i <;> rfl
theorem ne_zero_bit {c i : Nat} (h : c.testBit i = true) : c ≠ 0 := fun e => by rw [e, Nat.zero_testBit] at h; cases h
theorem Pk.first {R : Nat → Bool} {n set i : Nat} (h : Pk R n set) (hi : set.testBit i = true) : ∃ c k, n = k + 1 ∧ R c = true ∧ Sub c set ∧ c.testBit i = true ∧ Pk R k (diff set c) := by
  induction h with
  | nil => rw [Nat.zero_testBit] at hi; cases hi
  | @cons n set c hr hs h0 t ih =>
    cases hc : c.testBit i
    · obtain ⟨c', k, h1, h2, h3, h4, h5⟩ := ih (by rw [diff_bit, hi, hc]; rfl)
      subst h1
      refine ⟨c', k + 1, rfl, h2, h3.trans (sub_diff _ _), h4, .cons c hr (fun j hj => ?_) h0 (by rw [diff_diff]; exact h5)⟩
      rw [diff_bit, hs j hj]
      cases hc' : c'.testBit j
      · rfl
      · have := h3 j hc'; rw [diff_bit, hj, Bool.not_true, Bool.and_false] at this; cases this
    · exact ⟨c, n, rfl, hr, hs, hc, t⟩
theorem Pk.zero {R : Nat → Bool} {n : Nat} (h : Pk R n 0) : n = 0 := by
  cases h with
  | nil => rfl
  | cons c hr hs h0 t => exact absurd (Nat.le_zero.1 hs.le) h0
def allP (b : List Nat) (p : Int × Int) : Nat := b.getD p.1.toNat 0 ||| b.getD p.2.toNat 0
theorem joinStep_get (b : List Nat) (p : Int × Int) {i : Nat} (hi : i < b.length) : (joinStep b p).getD i 0 = if (allP b p).testBit i = true then b.getD i 0 ||| allP b p else b.getD i 0 := by
  have e : (allP b p).testBit i = decide ((b.getD p.1.toNat 0 ||| b.getD p.2.toNat 0) / 2 ^ i % 2 = 1) := Nat.testBit_eq_decide_div_mod_eq
  rw [e]
  unfold joinStep allP
  simp only [List.getD_eq_getElem?_getD, List.getElem?_mapIdx, List.getElem?_eq_getElem hi, Option.map_some, Option.getD_some, decide_eq_true_eq]
theorem joinStep_none (b : List Nat) (p : Int × Int) {i : Nat} (hi : ¬ i < b.length) : (joinStep b p).getD i 0 = 0 := by
  rw [List.getD_eq_getElem?_getD, List.getElem?_eq_none (by rw [joinStep_len]; omega)]; rfl
theorem joinStep_sub (b : List Nat) (p : Int × Int) (i : Nat) : Sub (b.getD i 0) ((joinStep b p).getD i 0) := by
  by_cases hi : i < b.length
  · rw [joinStep_get b p hi]; split
    · intro j hj; rw [Nat.testBit_or, hj]; rfl
    · exact Sub.refl _
  · rw [List.getD_eq_getElem?_getD, List.getElem?_eq_none (by omega)]; exact Sub.zero _
def Cl (l : Ld) (c : Nat) : Prop := ∀ p ∈ l.wth, c.testBit p.1.toNat = c.testBit p.2.toNat
def Inv (c : Nat) (b : List Nat) : Prop := ∀ i, (c.testBit i = true → Sub (b.getD i 0) c) ∧ (c.testBit i = false → ∀ j, (b.getD i 0).testBit j = true → c.testBit j = false)
theorem Inv.step {c : Nat} {b : List Nat} {p : Int × Int} (h : Inv c b) (hp : c.testBit p.1.toNat = c.testBit p.2.toNat) : Inv c (joinStep b p) := by
  intro i
  by_cases hi : i < b.length
  · rw [joinStep_get b p hi]
    split
    · rename_i ha
      unfold allP at ha ⊢
      cases h1 : c.testBit p.1.toNat
      · have k1 := (h p.1.toNat).2 h1
        have k2 := (h p.2.toNat).2 (hp ▸ h1)
        have hci : c.testBit i = false := by
          rw [Nat.testBit_or, Bool.or_eq_true] at ha
          exact ha.elim (k1 i) (k2 i)
        refine ⟨fun e => (by rw [hci] at e; cases e), fun _ j hj => ?_⟩
        rw [Nat.testBit_or, Nat.testBit_or, Bool.or_eq_true, Bool.or_eq_true] at hj
        rcases hj with hj | hj | hj
        · exact (h i).2 hci j hj
        · exact k1 j hj
        · exact k2 j hj
      · have k1 := (h p.1.toNat).1 h1
        have k2 := (h p.2.toNat).1 (hp ▸ h1)
        have hci : c.testBit i = true := by
          rw [Nat.testBit_or, Bool.or_eq_true] at ha
          exact ha.elim (k1 i) (k2 i)
        refine ⟨fun _ j hj => ?_, fun e => (by rw [hci] at e; cases e)⟩
        rw [Nat.testBit_or, Nat.testBit_or, Bool.or_eq_true, Bool.or_eq_true] at hj
        rcases hj with hj | hj | hj
        · exact (h i).1 hci j hj
        · exact k1 j hj
        · exact k2 j hj
    · exact h i
  · rw [joinStep_none b p hi]
    exact ⟨fun _ => Sub.zero _, fun _ j hj => by rw [Nat.zero_testBit] at hj; cases hj⟩
structure RightP (l : Ld) (c : Nat) : Prop where
  w : (sumW (wts l) c : Int) ≤ l.bears
  wp : Cl l c
  ap : ∀ p ∈ l.apart, ¬ (c.testBit p.1.toNat = true ∧ c.testBit p.2.toNat = true)
theorem diff_half (a b : Nat) : diff a b / 2 = diff (a / 2) (b / 2) := bit_ext fun i => by
  rw [← Nat.testBit_succ, diff_bit, diff_bit, Nat.testBit_succ, Nat.testBit_succ]
theorem diff_odd {a b : Nat} (h : Sub b a) : diff a b % 2 + b % 2 = a % 2 := by
  have e := diff_bit a b 0
  have hs := sub_odd h
  simp only [Nat.testBit_zero] at e
  rcases Nat.mod_two_eq_zero_or_one a with ha | ha <;> rcases Nat.mod_two_eq_zero_or_one b with hb | hb <;> rcases Nat.mod_two_eq_zero_or_one (diff a b) with hc | hc <;> simp [ha, hb, hc] at e hs ⊢
theorem sumW_split : ∀ (ws : List Nat) (s c : Nat), Sub c s → sumW ws (diff s c) + sumW ws c = sumW ws s
  | [], _, _, _ => rfl
  | w :: ws, s, c, h => by
    have ih := sumW_split ws (s / 2) (c / 2) (sub_half h)
    have ho := diff_odd h
    unfold sumW
    rw [diff_half]
    rcases Nat.mod_two_eq_zero_or_one s with ha | ha <;> rcases Nat.mod_two_eq_zero_or_one c with hb | hb <;> rcases Nat.mod_two_eq_zero_or_one (diff s c) with hc | hc <;> simp only [ha, hb, hc] at ho ⊢ <;> simp <;> omega
theorem sumW_le_of : ∀ (ws vs : List Nat) (s : Nat), ws.length = vs.length → (∀ i, ws.getD i 0 ≤ vs.getD i 0) → sumW ws s ≤ sumW vs s
  | [], [], _, _, _ => Nat.le_refl _
  | w :: ws, v :: vs, s, hl, h => by
    have h0 := h 0
    have := sumW_le_of ws vs (s / 2) (by simpa using hl) (fun i => by simpa using h (i + 1))
    simp only [List.getD_cons_zero] at h0
    unfold sumW; split <;> omega
  | [], _ :: _, _, hl, _ => by simp at hl
  | _ :: _, [], _, hl, _ => by simp at hl
theorem Pk.sum {R : Nat → Bool} {n set : Nat} (h : Pk R n set) (ws : List Nat) (k : Nat) (hR : ∀ c, Sub c set → R c = true → sumW ws c ≤ k) : sumW ws set ≤ n * k := by
  induction h with
  | nil => rw [sumW_zero]; exact Nat.zero_le _
  | @cons n set c hr hs h0 t ih =>
    have h1 := ih fun c' hc' => hR c' (hc'.trans (sub_diff _ _))
    have h2 := hR c hs hr
    have h3 := sumW_split ws set c hs
    rw [Nat.succ_mul]; omega
theorem wshrink {m s s' : Int} (h0 : 0 ≤ m) (h : s ≤ s') : m - m * s' / 100 ≤ m - m * s / 100 := by
  have h1 : m * s ≤ m * s' := Int.mul_le_mul_of_nonneg_left h h0
  have := Int.ediv_le_ediv (show (0 : Int) < 100 by decide) h1
  omega
theorem RightP.bears {l : Ld} {b : Int} (hb : l.bears ≤ b) {c : Nat} (h : RightP l c) : RightP { l with bears := b } c :=
  ⟨by have := h.w; show (sumW (wts l) c : Int) ≤ b; omega, h.wp, h.ap⟩
theorem RightP.shrink {l : Ld} (o : LdOk l) {s : Int} (hs : l.shrink ≤ s) {c : Nat} (h : RightP l c) : RightP { l with shrink := s } c :=
  ⟨by
    have h1 := h.w
    have h2 := sumW_le_of (wts { l with shrink := s }) (wts l) c (by simp [wts]) (fun i => by
      simp only [wts, List.getD_eq_getElem?_getD, List.getElem?_map]
      cases e : l.sacks[i]? with
      | none => simp
      | some x =>
        simp only [Option.map_some, Option.getD_some]
        have hx := o.sk x (List.mem_of_getElem? e)
        unfold wt weightR
        have := wshrink (m := x.m) (by omega) hs
        dsimp only; omega)
    show (sumW (wts { l with shrink := s }) c : Int) ≤ l.bears
    omega, h.wp, h.ap⟩
theorem bits_sum (ps : List Int) (h0 : ∀ x ∈ ps, 0 ≤ x) : ∀ (f i s : Nat), s < 2 ^ f → ((bitsF f i s).map fun x => ps.getD x.toNat 0).sum = (sumW ((ps.drop i).map Int.toNat) s : Int)
  | 0, i, s, h => by
    have : s = 0 := by simpa using h
    subst this
    rw [sumW_zero]; rfl
  | f + 1, i, s, h => by
    have ih := bits_sum ps h0 f (i + 1) (s / 2) (by rw [Nat.pow_succ] at h; omega)
    have e : bitsF (f + 1) i s = if s = 0 then [] else if s % 2 = 1 then (i : Int) :: bitsF f (i + 1) (s / 2) else bitsF f (i + 1) (s / 2) := rfl
    rw [e]
    by_cases hs : s = 0
    · subst hs; rw [if_pos rfl, sumW_zero]; rfl
    · rw [if_neg hs]
      by_cases hi : i < ps.length
      · have hd : ps.drop i = ps.getD i 0 :: ps.drop (i + 1) := by
          rw [List.drop_eq_getElem_cons hi, List.getD_eq_getElem?_getD, List.getElem?_eq_getElem hi]; rfl
        have hp : 0 ≤ ps.getD i 0 := h0 _ (getD_mem hi)
        rw [hd, List.map_cons]
        unfold sumW
        by_cases ho : s % 2 = 1
        · rw [if_pos ho, if_pos ho, List.map_cons, List.sum_cons, ih]
          have : (i : Int).toNat = i := rfl
          rw [this]; omega
        · rw [if_neg ho, if_neg ho, ih]; omega
      · have hd : ps.drop i = [] := List.drop_eq_nil_of_le (by omega)
        have hd2 : ps.drop (i + 1) = [] := List.drop_eq_nil_of_le (by omega)
        have hg : ps.getD i 0 = 0 := by rw [List.getD_eq_getElem?_getD, List.getElem?_eq_none (by omega)]; rfl
        rw [hd2] at ih
        have z : ∀ k, sumW (([] : List Int).map Int.toNat) k = 0 := fun k => rfl
        rw [z] at ih
        rw [hd, z]
        by_cases ho : s % 2 = 1
        · rw [if_pos ho, List.map_cons, List.sum_cons, ih]
          have : (i : Int).toNat = i := rfl
          rw [this, hg]; rfl
        · rw [if_neg ho, ih]
structure PR where
  u : Int
  ps : List Int
structure PR.Ok (n : Nat) (r : PR) : Prop where
  u1 : 1 ≤ r.u
  u2 : r.u ≤ 12
  n : r.ps.length = n
  ps : ∀ x ∈ r.ps, 0 ≤ x ∧ x ≤ 12
def wsL (l : Ld) : List Int := l.sacks.map (weightR l)
def e0 (l : Ld) : AV := .agg [.int .i64 l.bears, .sl (wsL l).isEmpty (ints (wsL l))]
inductive BS where
  | a (v : Hp)
  | b (v : Hp) (r : PR)
  | c (v : Hp) (r s : PR)
  | d (v : Hp) (r s t : PR)
def BS.Ok (n : Nat) : BS → Prop
  | .a v => v.Ok
  | .b v r => v.Ok ∧ r.Ok n
  | .c v r s => v.Ok ∧ r.Ok n ∧ s.Ok n
  | .d v r s t => v.Ok ∧ r.Ok n ∧ s.Ok n ∧ t.Ok n
def BS.k : BS → Nat
  | .a _ => 0
  | .b _ _ => 1
  | .c _ _ _ => 2
  | .d _ _ _ _ => 3
structure Eqv (n : Nat) (b : List Nat) : Prop where
  self : ∀ i, i < n → (b.getD i 0).testBit i = true
  same : ∀ i j, (b.getD j 0).testBit i = true → b.getD i 0 = b.getD j 0
  lt : ∀ i j, (b.getD j 0).testBit i = true → i < n ∧ j < n
theorem Eqv.step {n : Nat} {b : List Nat} {p : Int × Int} (h : Eqv n b) (hn : n ≤ 9) (hb : b.length = 9) (h1 : p.1.toNat < n) (h2 : p.2.toNat < n) : Eqv n (joinStep b p) := by
  have ain : ∀ x, (allP b p).testBit x = true → (b.getD p.1.toNat 0).testBit x = true ∨ (b.getD p.2.toNat 0).testBit x = true := fun x hx => by
    unfold allP at hx; rw [Nat.testBit_or, Bool.or_eq_true] at hx; exact hx
  have sub : ∀ x, (allP b p).testBit x = true → Sub (b.getD x 0) (allP b p) := by
    intro x hx y hy
    unfold allP; rw [Nat.testBit_or, Bool.or_eq_true]
    rcases ain x hx with hx | hx
    · rw [h.same _ _ hx] at hy; exact .inl hy
    · rw [h.same _ _ hx] at hy; exact .inr hy
  have alt : ∀ x, (allP b p).testBit x = true → x < n := fun x hx => (ain x hx).elim (fun e => (h.lt _ _ e).1) (fun e => (h.lt _ _ e).1)
  have yes : ∀ x, (allP b p).testBit x = true → (joinStep b p).getD x 0 = allP b p := by
    intro x hx
    have := alt x hx
    rw [joinStep_get b p (by omega), if_pos hx]
    apply bit_ext; intro i; rw [Nat.testBit_or]
    cases hi : (b.getD x 0).testBit i
    · rfl
    · rw [sub x hx i hi]; rfl
  have no : ∀ x, x < 9 → (allP b p).testBit x = false → (joinStep b p).getD x 0 = b.getD x 0 := fun x hx ha => by
    rw [joinStep_get b p (by omega), if_neg (by rw [ha]; simp)]
  have big : ∀ x, ¬ x < 9 → (joinStep b p).getD x 0 = 0 := fun x hx => joinStep_none b p (by omega)
  refine ⟨fun i hi => joinStep_sub b p i i (h.self i hi), fun i j hij => ?_, fun i j hij => ?_⟩
  · by_cases hj : j < 9
    · cases ha : (allP b p).testBit j
      · rw [no j hj ha] at hij ⊢
        have hl := h.lt i j hij
        have hi : (allP b p).testBit i = false := by
          cases hb' : (allP b p).testBit i
          · rfl
          · have h3 := sub i hb'
            rw [h.same i j hij] at h3
            have := h3 j (h.self j hl.2)
            rw [ha] at this; cases this
        rw [no i (by omega) hi, h.same i j hij]
      · rw [yes j ha] at hij ⊢
        exact yes i hij
    · rw [big j hj, Nat.zero_testBit] at hij; cases hij
  · by_cases hj : j < 9
    · cases ha : (allP b p).testBit j
      · rw [no j hj ha] at hij; exact h.lt i j hij
      · rw [yes j ha] at hij; exact ⟨alt i hij, alt j ha⟩
    · rw [big j hj, Nat.zero_testBit] at hij; cases hij
def setN : List Bool → Nat
  | [] => 0
  | b :: bs => 2 * setN bs + b.toNat
theorem setN_bit : ∀ (bs : List Bool) (k : Nat), (setN bs).testBit k = bs.getD k false
  | [], k => by simp [setN]
  | b :: bs, 0 => by
    unfold setN; rw [Nat.testBit_zero]; cases b <;> simp <;> omega
  | b :: bs, k + 1 => by
    unfold setN; rw [Nat.testBit_succ, show (2 * setN bs + b.toNat) / 2 = setN bs by cases b <;> simp <;> omega, setN_bit bs k]; rfl
def boolN (n s : Nat) : List Bool := (List.range n).map fun k => s.testBit k
theorem boolN_len (n s : Nat) : (boolN n s).length = n := by simp [boolN]
theorem boolN_get {n s k : Nat} (hk : k < n) : (boolN n s).getD k false = s.testBit k := by
  unfold boolN; rw [List.getD_eq_getElem?_getD, List.getElem?_map, List.getElem?_range hk]; rfl
def lsK (bs : List Bool) (k : Nat) : List Int := ((List.range k).filter fun j => bs.getD j false).map fun j : Nat => (j : Int)
def lsN (bs : List Bool) : List Int := lsK bs bs.length
theorem bitsF_ls : ∀ (f i s : Nat), s < 2 ^ f → bitsF f i s = ((List.range f).filter fun j => s.testBit j).map fun j => ((i + j : Nat) : Int)
  | 0, i, s, h => rfl
  | f + 1, i, s, h => by
    have ih := bitsF_ls f (i + 1) (s / 2) (by rw [Nat.pow_succ] at h; omega)
    have e : bitsF (f + 1) i s = if s = 0 then [] else if s % 2 = 1 then (i : Int) :: bitsF f (i + 1) (s / 2) else bitsF f (i + 1) (s / 2) := rfl
    have e2 : ((List.range (f + 1)).filter fun j => s.testBit j).map (fun j => ((i + j : Nat) : Int)) = (if s % 2 = 1 then [(i : Int)] else []) ++ ((List.range f).filter fun j => (s / 2).testBit j).map fun j => ((i + 1 + j : Nat) : Int) := by
      rw [List.range_succ_eq_map, List.filter_cons, List.filter_map]
      have h0 : s.testBit 0 = decide (s % 2 = 1) := Nat.testBit_zero s
      have hf : ((fun j => s.testBit j) ∘ Nat.succ) = fun j => (s / 2).testBit j := by funext j; exact Nat.testBit_succ ..
      rw [hf, h0]
      by_cases hs : s % 2 = 1
      · rw [if_pos hs, if_pos (by simp [hs]), List.map_cons, List.map_map]
        show _ :: _ = _ :: _
        congr 1
        apply List.map_congr_left; intro j _; show ((i + (j + 1) : Nat) : Int) = _; congr 1; omega
      · rw [if_neg hs, if_neg (by simp [hs]), List.map_map]
        show _ = _
        rw [List.nil_append]
        apply List.map_congr_left; intro j _; show ((i + (j + 1) : Nat) : Int) = _; congr 1; omega
    rw [e, e2]
    by_cases h0 : s = 0
    · subst h0
      rw [if_pos rfl]
      have : ((List.range f).filter fun j => (0 / 2).testBit j) = [] := by rw [List.filter_eq_nil_iff]; intro j _; simp
      rw [this]; rfl
    · rw [if_neg h0, ih]
      by_cases hs : s % 2 = 1
      · rw [if_pos hs, if_pos hs]; rfl
      · rw [if_neg hs, if_neg hs]; rfl
theorem bits_ls {n s : Nat} (hn : n ≤ 9) (h : s < 2 ^ n) : lsN (boolN n s) = bits s := by
  have hp := pow9 hn
  have e : bits s = ((List.range 62).filter fun j => s.testBit j).map fun j => ((0 + j : Nat) : Int) := bitsF_ls 62 0 s (by omega)
  rw [e]
  have hr : List.range 62 = List.range n ++ (List.range (62 - n)).map (n + ·) := by rw [← List.range_add]; congr 1; omega
  rw [hr, List.filter_append]
  have h2 : ((List.range (62 - n)).map (n + ·)).filter (fun j => s.testBit j) = [] := by
    rw [List.filter_eq_nil_iff]
    intro j hj
    obtain ⟨k, _, rfl⟩ := List.mem_map.1 hj
    rw [Nat.testBit_lt_two_pow (Nat.lt_of_lt_of_le h (Nat.pow_le_pow_right (by omega) (by omega)))]; simp
  rw [h2, List.append_nil]
  unfold lsN lsK
  rw [boolN_len]
  have h3 : ((List.range n).filter fun j => (boolN n s).getD j false) = (List.range n).filter fun j => s.testBit j := by
    apply List.filter_congr
    intro j hj
    exact boolN_get (List.mem_range.1 hj)
  rw [h3]
  apply List.map_congr_left; intro j _; congr 1; omega
theorem drop_next {α : Type} [Inhabited α] {xs : List α} {k : Nat} (h : k < xs.length) : xs.drop k = xs.getD k default :: xs.drop (k + 1) := by
  rw [List.drop_eq_getElem_cons h, List.getD_eq_getElem?_getD, List.getElem?_eq_getElem h]; rfl
structure DelOk (xs : List Int) (g : Int) (j : Nat) (ys : List Int) : Prop where
  n : ys.length = xs.length
  h : ys.take (keptL (xs.take j) g).length = keptL (xs.take j) g
  t : ∀ i, j ≤ i → ys.getD i default = xs.getD i default
  lt : (keptL (xs.take j) g).length < j
theorem DelOk.put {xs : List Int} {g : Int} {j : Nat} {ys : List Int} (o : DelOk xs g j ys) (hj : j < xs.length) (hv : ¬ xs.getD j default < g) : DelOk xs g (j + 1) (ys.set (keptL (xs.take j) g).length (xs.getD j default)) ∧ (keptL (xs.take (j + 1)) g).length = (keptL (xs.take j) g).length + 1 := by
  have e := kept_next (g := g) hj
  rw [if_pos (by omega)] at e
  have hlt := o.lt
  have hn := o.n
  refine ⟨⟨by rw [List.length_set]; exact o.n, ?_, fun i hi => ?_, ?_⟩, by rw [e, List.length_append]; rfl⟩
  · rw [e, List.length_append]
    generalize hk : (keptL (xs.take j) g) = K at hlt
    have hh := o.h
    rw [hk] at hh
    show (ys.set K.length _).take (K.length + 1) = _
    rw [take_next (by rw [List.length_set]; omega)]
    congr 1
    · rw [List.take_set_of_le (Nat.le_refl _)]; exact hh
    · rw [List.getD_eq_getElem?_getD, List.getElem?_set_self (by omega)]; rfl
  · rw [← o.t i (by omega), List.getD_eq_getElem?_getD, List.getElem?_set_ne (by omega), ← List.getD_eq_getElem?_getD]
  · rw [e, List.length_append]; show _ + 1 < _; omega
def cmpL : List Int → List Int → Int
  | [], [] => 0
  | [], _ :: _ => -1
  | _ :: _, [] => 1
  | x :: xs, y :: ys => if x < y then -1 else if y < x then 1 else cmpL xs ys
def wsum (l : Ld) (is : List Int) : Int := (is.map fun i => (l.sacks.map (weightR l)).getD i.toNat 0).sum
theorem wsum_bits {l : Ld} (o : LdOk l) {s : Nat} (hs : s < 2 ^ l.sacks.length) : wsum l (bits s) = (sumW (wts l) s : Int) := by
  have hp := pow9 o.n
  have h0 : ∀ x ∈ l.sacks.map (weightR l), 0 ≤ x := fun x hx => by
    obtain ⟨k, hk, rfl⟩ := List.mem_map.1 hx
    have := wt_le o hk; omega
  have := bits_sum (l.sacks.map (weightR l)) h0 62 0 s (by omega)
  rw [List.drop_zero, List.map_map] at this
  exact this
theorem bits_in {n s : Nat} (hn : n ≤ 9) (hs : s < 2 ^ n) : ∀ x ∈ bits s, 0 ≤ x ∧ x < n := fun x hx => by
  have := bitsF_bound 62 0 s n hs x hx; omega
def insRen : Go.Shelf.Ren := ⟨fun | 21 => 190 | 27 => 208 | 28 => 209 | 35 => 220 | 39 => 224 | n => n, fun | 0 => 0 | 3 => 3 | 4 => 4 | 22 => 22 | n => n, fun n => n⟩
theorem insLays : Lays2.n21 Tryz.prog insRen where
  mixed := by kernel_rfl
  f21 := Tryz.func190.trans (congrArg some (by kernel_rfl))
  f27 := Tryz.func208.trans (congrArg some (by kernel_rfl))
  f28 := Tryz.func209.trans (congrArg some (by kernel_rfl))
  f35 := Tryz.func220.trans (congrArg some (by kernel_rfl))
  f39 := Tryz.func224.trans (congrArg some (by kernel_rfl))
  t0 := Tryz.underlying0
  a0 := Tryz.isAgg0
  z0 := Tryz.sizeOf0
  v0 := Tryz.zeroValue0
  t3 := Tryz.underlying3
  a3 := Tryz.isAgg3
  z3 := Tryz.sizeOf3
  v3 := Tryz.zeroValue3
  t4 := Tryz.underlying4
  a4 := Tryz.isAgg4
  z4 := Tryz.sizeOf4
  v4 := Tryz.zeroValue4
  t22 := Tryz.underlying22
  a22 := Tryz.isAgg22
  z22 := Tryz.sizeOf22
  v22 := Tryz.zeroValue22
  i3 := by kernel_rfl

theorem XCall.insert {H : List Blk} {i j n p : Nat} {nl : Bool} {ys : List Int} {x q : Int} {k : AV → List Blk → Prop} (hi : lget H i = some (.grow 3 nl (ints ys))) (hj : lget H j = some (.grow 3 false [.int .i64 x]))
    (hij : i ≠ j) (hl : ys.length = n) (hq : q = p) (hp : p ≤ n) (hn : n ≤ 1000000) (hk : k (.gr i (n + 1)) (H.set i (.grow 3 false (ints (putAt ys p x))))) : XCall Tryz.prog 190 [.gr i n, .int .i64 q, .gr j 1] H k := by
  subst hl hq
  rw [lget_eq] at hi hj
  exact ⟨ACall.insert insLays hi hj hij hp hn hk⟩

def compN (is : List Int) (c : Nat) : Nat := setN (is.map fun i => c.testBit i.toNat)
theorem compN_bit (is : List Int) (c j : Nat) : (compN is c).testBit j = (decide (j < is.length) && c.testBit (is.getD j default).toNat) := by
  unfold compN
  rw [setN_bit, List.getD_eq_getElem?_getD, List.getElem?_map, List.getD_eq_getElem?_getD]
  by_cases h : j < is.length
  · rw [List.getElem?_eq_getElem h]; simp [h]
  · rw [List.getElem?_eq_none (by omega)]; simp [h]
theorem sumW_comp (w : Int → Nat) (c : Nat) : ∀ is : List Int, sumW (is.map w) (compN is c) = ((is.filter fun i => c.testBit i.toNat).map w).sum
  | [] => rfl
  | i :: is => by
    have ih := sumW_comp w c is
    have e : compN (i :: is) c = 2 * compN is c + (c.testBit i.toNat).toNat := rfl
    show (if compN (i :: is) c % 2 = 1 then w i else 0) + sumW (is.map w) (compN (i :: is) c / 2) = _
    rw [e, List.filter_cons]
    cases hb : c.testBit i.toNat
    · rw [if_neg (by show ¬ (2 * compN is c + 0) % 2 = 1; omega), if_neg (by simp), show (2 * compN is c + false.toNat) / 2 = compN is c by show (2 * compN is c + 0) / 2 = _; omega, ih]; simp
    · rw [if_pos (by show (2 * compN is c + 1) % 2 = 1; omega), if_pos rfl, show (2 * compN is c + true.toNat) / 2 = compN is c by show (2 * compN is c + 1) / 2 = _; omega, ih]; simp
theorem bits_filter {n s c : Nat} (hn : n ≤ 9) (hs : s < 2 ^ n) (h : Sub c s) : (bits s).filter (fun i => c.testBit i.toNat) = bits c := by
  have hc : c < 2 ^ n := Nat.lt_of_le_of_lt h.le hs
  rw [← bits_ls hn hs, ← bits_ls hn hc]
  unfold lsN lsK
  rw [boolN_len, boolN_len, List.filter_map, List.filter_filter]
  congr 1
  refine List.filter_congr fun i hi => ?_
  have hin := List.mem_range.1 hi
  rw [boolN_get hin, boolN_get hin]
  show (c.testBit ((i : Int)).toNat && s.testBit i) = c.testBit i
  rw [Int.toNat_natCast]
  cases hb : c.testBit i
  · rfl
  · rw [h i hb]; rfl
structure SubL (l u : Ld) (is : List Int) : Prop where
  b : u.bears = l.bears
  s : u.shrink = l.shrink
  k : u.sacks = is.map fun i => l.sacks.getD i.toNat default
  ap : ∀ p ∈ u.apart, ∃ q ∈ l.apart, q.1 = is.getD p.1.toNat default ∧ q.2 = is.getD p.2.toNat default
  wp : ∀ p ∈ u.wth, ∃ q ∈ l.wth, q.1 = is.getD p.1.toNat default ∧ q.2 = is.getD p.2.toNat default
theorem SubL.wts {l u : Ld} {is : List Int} (h : SubL l u is) : GA.wts u = is.map fun i => wt l (l.sacks.getD i.toNat default) := by
  unfold GA.wts
  rw [h.k, List.map_map]
  refine List.map_congr_left fun i _ => ?_
  show (weightR u _).toNat = (weightR l _).toNat
  unfold weightR; rw [h.s]
theorem SubL.sum {l u : Ld} {s : Nat} (o : LdOk l) (hs : s < 2 ^ l.sacks.length) (h : SubL l u (bits s)) {c : Nat} (hc : Sub c s) : sumW (GA.wts u) (compN (bits s) c) = sumW (GA.wts l) c := by
  have hcl : c < 2 ^ l.sacks.length := Nat.lt_of_le_of_lt hc.le hs
  rw [h.wts, sumW_comp, bits_filter o.n hs hc]
  have e := wsum_bits o hcl
  have : wsum l (bits c) = ((((bits c).map fun i => wt l (l.sacks.getD i.toNat default)).sum : Nat) : Int) := by
    unfold wsum
    have hb : ∀ x ∈ bits c, 0 ≤ x ∧ x < l.sacks.length := bits_in o.n hcl
    generalize bits c = xs at hb
    induction xs with
    | nil => rfl
    | cons x xs ih =>
      have hx := hb x List.mem_cons_self
      have hw := wt_le o (getD_mem (xs := l.sacks) (i := x.toNat) (d := default) (by omega))
      rw [List.map_cons, List.map_cons, List.sum_cons, List.sum_cons, Int.natCast_add, ← ih fun y hy => hb y (List.mem_cons_of_mem _ hy), hw.1]
      congr 1
      rw [List.getD_eq_getElem?_getD, List.getElem?_map, List.getD_eq_getElem?_getD, List.getElem?_eq_getElem (by omega)]; rfl
  omega
theorem SubL.right {l u : Ld} {s : Nat} (o : LdOk l) (hs : s < 2 ^ l.sacks.length) (h : SubL l u (bits s)) (hp : ∀ p ∈ u.apart, p.1.toNat < (bits s).length ∧ p.2.toNat < (bits s).length) (hq : ∀ p ∈ u.wth, p.1.toNat < (bits s).length ∧ p.2.toNat < (bits s).length) {c : Nat} (hc : Sub c s) (hr : RightP l c) : RightP u (compN (bits s) c) := by
  refine ⟨by rw [h.sum o hs hc, h.b]; exact hr.w, fun p hp' => ?_, fun p hp' => ?_⟩
  · obtain ⟨q, hq1, e1, e2⟩ := h.wp p hp'
    have := hq p hp'
    rw [compN_bit, compN_bit, ← e1, ← e2, hr.wp q hq1, decide_eq_true this.1, decide_eq_true this.2]
  · obtain ⟨q, hq1, e1, e2⟩ := h.ap p hp'
    rw [compN_bit, compN_bit, ← e1, ← e2]
    intro hh
    simp only [Bool.and_eq_true] at hh
    exact hr.ap q hq1 ⟨hh.1.2, hh.2.2⟩
structure Mo where
  g : Int
  r : Int
  pl : Int
  ph : Int
  tl : Int
  th : Int
  deriving Inhabited, DecidableEq
structure Su where
  m : Int
  lo : Int
  hi : Int
  deriving Inhabited, DecidableEq
structure Bd where
  room : Int
  first : Int
  unsure : Int
  nlm : Bool
  months : List Mo
  nls : Bool
  surveys : List Su
  deriving Inhabited
def moA (m : Mo) : AV := .agg [.int .i64 m.g, .int .i64 m.r, .int .i64 m.pl, .int .i64 m.ph, .int .i64 m.tl, .int .i64 m.th]
def suA (s : Su) : AV := .agg [.int .i64 s.m, .int .i64 s.lo, .int .i64 s.hi]
def spA (lo hi : Int) : AV := .agg [.int .i64 lo, .int .i64 hi]
def bedC (b : Bd) : List AV := [.int .i64 b.room, .int .i64 b.first, .int .i64 b.unsure, .sl b.nlm (b.months.map moA), .sl b.nls (b.surveys.map suA)]
def bedA (b : Bd) : AV := .agg (bedC b)
theorem moL {n : Nat} (m : Mo) : (moA m).low n = true := rfl
theorem suL {n : Nat} (m : Su) : (suA m).low n = true := rfl
theorem lowMo {n : Nat} (xs : List Mo) : lowL n (xs.map moA) = true := lowL_map (fun _ => rfl) xs
theorem lowSu {n : Nat} (xs : List Su) : lowL n (xs.map suA) = true := lowL_map (fun _ => rfl) xs
theorem wideMo (xs : List Mo) : wide 6 (xs.map moA) = true := wide_map (f := moA) (n := 6) (fun _ => rfl) (fun _ => rfl) xs
theorem lowBd {n : Nat} (b : Bd) : lowL n (bedC b) = true := by simp only [bedC, lowL, AV.low, lowMo, lowSu]; rfl
theorem bedL {n : Nat} (b : Bd) : (bedA b).low n = true := lowBd b
def inZ (n lo hi : Int) : Bool := decide (lo ≤ n) && decide (n ≤ hi)
theorem inZ_iff {n lo hi : Int} : inZ n lo hi = true ↔ lo ≤ n ∧ n ≤ hi := by simp [inZ]
theorem bedIn_c (n lo hi : Int) : Comp Tryz.prog 169 [.int .i64 n, .int .i64 lo, .int .i64 hi] (.bool (inZ n lo hi)) := by
  refine Comp.body (T := tab) (res := [.tmp 6]) tab_ok [] Tryz.func169 rfl (by kernel_rfl) Tryz.ntmps169 rfl (by simp only [List.length_cons, List.length_nil]; decide) (by rfl) ?_; conv => whnf
  repeat' first | ((first | (with_reducible apply XBr.tt) | (with_reducible apply XBr.ff)); conv => whnf) | ((with_reducible apply XBr.dec) <;> (intro h; first | (exfalso; omega) | ((try simp only [List.length_map] at h); first | (exfalso; omega) | (conv => whnf)))) | fail
  all_goals (refine XOut.bool ?_; rw [Bool.eq_iff_iff]; simp [inZ]; try omega)
def withinB (l h lo hi : Int) : Bool := inZ l lo hi && inZ h l hi
theorem within_c (l h lo hi : Int) : Comp Tryz.prog 203 [spA l h, .int .i64 lo, .int .i64 hi] (.bool (withinB l h lo hi)) := by
  refine Comp.body (T := tab) (res := [.tmp 6]) tab_ok [] Tryz.func203 rfl (by kernel_rfl) Tryz.ntmps203 rfl (by simp only [List.length_cons, List.length_nil]; decide) (by rfl) ?_; conv => whnf
  repeat' first | ((first | (with_reducible apply XBr.tt) | (with_reducible apply XBr.ff) | (refine XCall.ret (bedIn_c _ _ _) ?_)); conv => whnf) | ((with_reducible apply XBr.mk') <;> (intro h; conv => whnf)) | fail
  all_goals exact XOut.bool (by unfold withinB; rw [h]; rfl)
theorem bedAmount_c (b : Bd) (n : Int) : Comp Tryz.prog 112 [bedA b, .int .i64 n] (.bool (inZ n 0 b.room)) := by
  refine Comp.body (T := tab) (res := [.tmp 4]) tab_ok [] Tryz.func112 rfl (by kernel_rfl) Tryz.ntmps112 rfl (by simp only [List.length_cons, List.length_nil]; decide) (by simp only [lowL, bedL, AV.low]; rfl) ?_; conv => whnf
  repeat' first | ((refine XCall.ret (bedIn_c _ _ _) ?_); conv => whnf) | fail
  all_goals exact XOut.bool rfl
def moR (b : Bd) (m : Mo) : Bool := inZ m.g 0 100 && inZ m.r 0 b.room && withinB m.pl m.ph 0 60 && withinB m.tl m.th 0 60
theorem bedRight_c (b : Bd) (m : Mo) : Comp Tryz.prog 200 [bedA b, moA m] (.bool (moR b m)) := by
  refine Comp.body (T := tab) (res := [.tmp 4]) tab_ok [] Tryz.func200 rfl (by kernel_rfl) Tryz.ntmps200 rfl (by simp only [List.length_cons, List.length_nil]; decide) (by simp only [lowL, bedL, moL]; rfl) ?_; conv => whnf
  repeat' first | ((first | (with_reducible apply XBr.tt) | (with_reducible apply XBr.ff) | (refine XCall.ret (bedIn_c _ _ _) ?_) | (refine XCall.ret (bedAmount_c b _) ?_) | (refine XCall.ret (within_c _ _ _ _) ?_)); conv => whnf) | ((with_reducible apply XBr.mk') <;> (intro h; conv => whnf)) | fail
  all_goals exact XOut.bool (by unfold moR; simp [*])
theorem bedGreatest_c (n : Int) (nl : Bool) (xs : List Int) (hx : xs.length ≤ 100000) : Comp Tryz.prog 98 [.int .i64 n, .sl nl (ints xs)] (.int .i64 (xs.foldl max n)) := by
  have e1 : ((ints xs).length : Int) = xs.length := by rw [List.length_map]
  refine Comp.body (T := tab) (res := [.tmp 4]) tab_ok [] Tryz.func98 rfl (by kernel_rfl) Tryz.ntmps98 rfl (by simp only [List.length_cons, List.length_nil]; decide) (by simp only [lowL, AV.low, lowI]; rfl) ?_; conv => whnf
  skip
  refine Walk.loop tab_ok [] (fun k : Nat => k ≤ xs.length) (fun k => [(0, .int .i64 ((xs.take k).foldl max n)), (4, .int .i64 0), (7, .sl nl (ints xs)), (8, .int .i64 (ints xs).length), (9, natA k)]) (fun _ => []) (fun k => xs.length - k) 0 (Nat.zero_le _) rfl ⟨rfl, rfl, rfl, rfl, rfl, trivial⟩ ?_
  intro k hk
  conv => whnf
  repeat' first | ((with_reducible apply XBr.dec) <;> (intro h; first | (exfalso; omega) | ((try simp only [List.length_map] at h); first | (exfalso; omega) | (conv => whnf)))) | ((first | (with_reducible refine XInt.i64 (by omega) (by omega) ?_) | ((with_reducible refine XIx.nat ?_ ?_ ?_); omega; (intro _; rfl))); conv => whnf) | fail
  · refine XAgain.go (k + 1) (show k + 1 ≤ xs.length by omega) (by omega) rfl ⟨?_, rfl, rfl, rfl, rfl, trivial⟩
    show some (AV.int .i64 _) = some (AV.int .i64 ((xs.take (k + 1)).foldl max n))
    rw [take_next (by omega), List.foldl_append]
    rfl
  · refine XOut.int ?_
    rw [List.take_of_length_le (by omega)]
theorem idxf_mo (nl : Bool) (xs : List Mo) (g : FuncId) (caps : List AV) (p : Mo → Bool) (hl : lowL 0 caps = true) (hx : xs.length ≤ 100000) (hp : ∀ x ∈ xs, Comp Tryz.prog g (moA x :: caps) (.bool (p x))) :
    Comp Tryz.prog 221 [.sl nl (xs.map moA), .fn g caps] (.int .i64 (idxR p xs)) := by
  refine Comp.body (T := tab) (res := [.tmp 4]) tab_ok [] Tryz.func221 rfl (by kernel_rfl) Tryz.ntmps221 rfl (by simp only [List.length_cons, List.length_nil]; decide) (by simp only [lowL, AV.low, lowMo, hl]; rfl) ?_; conv => whnf
  refine Walk.loop tab_ok [] (fun i : Nat => i ≤ xs.length ∧ ∀ j, j < i → p (xs.getD j default) = false) (fun i => [(0, .sl nl (xs.map moA)), (1, .fn g caps), (7, .int .i64 xs.length), (8, .int .i64 i)]) (fun _ => []) (fun i => xs.length - i) 0 ⟨by omega, by omega⟩ rfl ⟨rfl, rfl, by simp only [List.length_map]; rfl, rfl, trivial⟩ ?_
  rintro i ⟨h2, h3⟩
  conv => whnf
  repeat' first | ((with_reducible apply XBr.dec) <;> (intro h; first | (exfalso; omega) | ((try simp only [List.length_map] at h); first | (exfalso; omega) | (conv => whnf)))) | (((with_reducible refine XIx.nat ?_ ?_ ?_); omega; (intro _; rfl)); conv => whnf) | fail
  · refine XCall.ret (hp _ (getD_mem (i := i) (d := default) (by omega))) ?_
    conv => whnf
    refine XBr.mk' ?_ ?_ <;> intro h4 <;> (conv => whnf)
    · refine XOut.int ?_
      simp only [idxR, find_some (d := default) (i := i) (by omega) h4 h3]
    · skip
      repeat' first | ((with_reducible refine XInt.i64 (by omega) (by omega) ?_); conv => whnf) | fail
      refine XAgain.go (i + 1) ⟨by omega, fun j hj => ?_⟩ (by omega) rfl ⟨rfl, rfl, rfl, rfl, trivial⟩
      by_cases hji : j = i
      · subst hji; exact h4
      · exact h3 j (by omega)
  · refine XOut.int ?_
    simp only [idxR, find_none (d := default) fun j hj => h3 j (by omega)]
theorem contf_mo (nl : Bool) (xs : List Mo) (g : FuncId) (caps : List AV) (p : Mo → Bool) (hl : lowL 0 caps = true) (hx : xs.length ≤ 100000) (hp : ∀ x ∈ xs, Comp Tryz.prog g (moA x :: caps) (.bool (p x))) :
    Comp Tryz.prog 213 [.sl nl (xs.map moA), .fn g caps] (.bool (xs.any p)) := by
  refine Comp.body (T := tab) (res := [.tmp 4]) tab_ok [] Tryz.func213 rfl (by kernel_rfl) Tryz.ntmps213 rfl (by simp only [List.length_cons, List.length_nil]; decide) (by simp only [lowL, AV.low, lowMo, hl]; rfl) ?_; conv => whnf
  refine XCall.ret (idxf_mo nl xs g caps p hl hx hp) ?_
  conv => whnf
  refine XOut.bool ?_
  rw [Bool.eq_iff_iff, decide_eq_true_eq]; exact idxR_pos
theorem idxf_su (nl : Bool) (xs : List Su) (g : FuncId) (caps : List AV) (p : Su → Bool) (hl : lowL 0 caps = true) (hx : xs.length ≤ 100000) (hp : ∀ x ∈ xs, Comp Tryz.prog g (suA x :: caps) (.bool (p x))) :
    Comp Tryz.prog 222 [.sl nl (xs.map suA), .fn g caps] (.int .i64 (idxR p xs)) := by
  refine Comp.body (T := tab) (res := [.tmp 4]) tab_ok [] Tryz.func222 rfl (by kernel_rfl) Tryz.ntmps222 rfl (by simp only [List.length_cons, List.length_nil]; decide) (by simp only [lowL, AV.low, lowSu, hl]; rfl) ?_; conv => whnf
  refine Walk.loop tab_ok [] (fun i : Nat => i ≤ xs.length ∧ ∀ j, j < i → p (xs.getD j default) = false) (fun i => [(0, .sl nl (xs.map suA)), (1, .fn g caps), (7, .int .i64 xs.length), (8, .int .i64 i)]) (fun _ => []) (fun i => xs.length - i) 0 ⟨by omega, by omega⟩ rfl ⟨rfl, rfl, by simp only [List.length_map]; rfl, rfl, trivial⟩ ?_
  rintro i ⟨h2, h3⟩
  conv => whnf
  repeat' first | ((with_reducible apply XBr.dec) <;> (intro h; first | (exfalso; omega) | ((try simp only [List.length_map] at h); first | (exfalso; omega) | (conv => whnf)))) | (((with_reducible refine XIx.nat ?_ ?_ ?_); omega; (intro _; rfl)); conv => whnf) | fail
  · refine XCall.ret (hp _ (getD_mem (i := i) (d := default) (by omega))) ?_
    conv => whnf
    refine XBr.mk' ?_ ?_ <;> intro h4 <;> (conv => whnf)
    · refine XOut.int ?_
      simp only [idxR, find_some (d := default) (i := i) (by omega) h4 h3]
    · skip
      repeat' first | ((with_reducible refine XInt.i64 (by omega) (by omega) ?_); conv => whnf) | fail
      refine XAgain.go (i + 1) ⟨by omega, fun j hj => ?_⟩ (by omega) rfl ⟨rfl, rfl, rfl, rfl, trivial⟩
      by_cases hji : j = i
      · subst hji; exact h4
      · exact h3 j (by omega)
  · refine XOut.int ?_
    simp only [idxR, find_none (d := default) fun j hj => h3 j (by omega)]
theorem contf_su (nl : Bool) (xs : List Su) (g : FuncId) (caps : List AV) (p : Su → Bool) (hl : lowL 0 caps = true) (hx : xs.length ≤ 100000) (hp : ∀ x ∈ xs, Comp Tryz.prog g (suA x :: caps) (.bool (p x))) :
    Comp Tryz.prog 215 [.sl nl (xs.map suA), .fn g caps] (.bool (xs.any p)) := by
  refine Comp.body (T := tab) (res := [.tmp 4]) tab_ok [] Tryz.func215 rfl (by kernel_rfl) Tryz.ntmps215 rfl (by simp only [List.length_cons, List.length_nil]; decide) (by simp only [lowL, AV.low, lowSu, hl]; rfl) ?_; conv => whnf
  refine XCall.ret (idxf_su nl xs g caps p hl hx hp) ?_
  conv => whnf
  refine XOut.bool ?_
  rw [Bool.eq_iff_iff, decide_eq_true_eq]; exact idxR_pos
theorem every1_mo (x : Mo) (g : FuncId) (fs : List AV) (p : Mo → Bool) (hl : lowL 0 fs = true) (hp : Comp Tryz.prog g (fs ++ [moA x]) (.bool (p x))) :
    Comp Tryz.prog 214 [moA x, .pim [.bf g fs]] (.bool (!p x)) := by
  refine Comp.body (T := tab) (res := [.tmp 3]) tab_ok [] Tryz.func214 rfl (by kernel_rfl) Tryz.ntmps214 rfl (by simp only [List.length_cons, List.length_nil]; decide) (by simp only [lowL, AV.low, moL, hl]; rfl) ?_; conv => whnf
  refine XCall.ret hp ?_
  conv => whnf
  exact XOut.bool rfl
theorem every_mo (nl : Bool) (xs : List Mo) (g : FuncId) (fs : List AV) (p : Mo → Bool) (hl : lowL 0 fs = true) (hx : xs.length ≤ 100000) (hp : ∀ x ∈ xs, Comp Tryz.prog g (fs ++ [moA x]) (.bool (p x))) :
    Comp Tryz.prog 199 [.sl nl (xs.map moA), .bf g fs] (.bool (xs.all p)) := by
  refine Comp.body (T := tab) (res := [.tmp 4]) tab_ok [] Tryz.func199 rfl (by kernel_rfl) Tryz.ntmps199 rfl (by simp only [List.length_cons, List.length_nil]; decide) (by simp only [lowL, AV.low, lowMo, hl]; rfl) ?_; conv => whnf
  refine XCall.ret (contf_mo nl xs 214 [.pim [.bf g fs]] (fun x => !p x) (by simp only [lowL, AV.low, hl]; rfl) hx fun x hm => every1_mo x g fs p hl (hp x hm)) ?_
  conv => whnf
  refine XOut.bool ?_
  rw [List.not_any_eq_all_not]; simp
theorem every1_su (x : Su) (g : FuncId) (caps : List AV) (p : Su → Bool) (hl : lowL 0 caps = true) (hp : Comp Tryz.prog g (suA x :: caps) (.bool (p x))) :
    Comp Tryz.prog 216 [suA x, .pim [.fn g caps]] (.bool (!p x)) := by
  refine Comp.body (T := tab) (res := [.tmp 3]) tab_ok [] Tryz.func216 rfl (by kernel_rfl) Tryz.ntmps216 rfl (by simp only [List.length_cons, List.length_nil]; decide) (by simp only [lowL, AV.low, suL, hl]; rfl) ?_; conv => whnf
  refine XCall.ret hp ?_
  conv => whnf
  exact XOut.bool rfl
theorem every_su (nl : Bool) (xs : List Su) (g : FuncId) (caps : List AV) (p : Su → Bool) (hl : lowL 0 caps = true) (hx : xs.length ≤ 100000) (hp : ∀ x ∈ xs, Comp Tryz.prog g (suA x :: caps) (.bool (p x))) :
    Comp Tryz.prog 201 [.sl nl (xs.map suA), .fn g caps] (.bool (xs.all p)) := by
  refine Comp.body (T := tab) (res := [.tmp 4]) tab_ok [] Tryz.func201 rfl (by kernel_rfl) Tryz.ntmps201 rfl (by simp only [List.length_cons, List.length_nil]; decide) (by simp only [lowL, AV.low, lowSu, hl]; rfl) ?_; conv => whnf
  refine XCall.ret (contf_su nl xs 216 [.pim [.fn g caps]] (fun x => !p x) (by simp only [lowL, AV.low, hl]; rfl) hx fun x hm => every1_su x g caps p hl (hp x hm)) ?_
  conv => whnf
  refine XOut.bool ?_
  rw [List.not_any_eq_all_not]; simp
def suR1 (b : Bd) (s : Su) : Bool := withinB s.lo s.hi 0 b.room
def suR2 (b : Bd) (s : Su) : Bool := inZ s.m 0 b.months.length
theorem check1_c (b : Bd) (s : Su) : Comp Tryz.prog 202 [suA s, .pim (bedC b)] (.bool (suR1 b s)) := by
  refine Comp.body (T := tab) (res := [.tmp 3]) tab_ok [] Tryz.func202 rfl (by kernel_rfl) Tryz.ntmps202 rfl (by simp only [List.length_cons, List.length_nil]; decide) (by simp only [lowL, suL, AV.low, lowBd]; rfl) ?_; conv => whnf
  repeat' first | ((refine XCall.ret (within_c _ _ _ _) ?_); conv => whnf) | fail
  all_goals exact XOut.bool rfl
theorem check2_c (b : Bd) (s : Su) (h : b.months.length ≤ 100000) : Comp Tryz.prog 204 [suA s, .pim (bedC b)] (.bool (suR2 b s)) := by
  refine Comp.body (T := tab) (res := [.tmp 3]) tab_ok [] Tryz.func204 rfl (by kernel_rfl) Tryz.ntmps204 rfl (by simp only [List.length_cons, List.length_nil]; decide) (by simp only [lowL, suL, AV.low, lowBd]; rfl) ?_; conv => whnf
  repeat' first | ((refine XCall.ret (bedIn_c _ _ _) ?_); conv => whnf) | fail
  all_goals exact XOut.bool (by unfold suR2; rw [List.length_map])
def bedE (b : Bd) : Int :=
  if inZ b.room 1 120 = false then 3
  else if inZ b.months.length 1 10 = false ∨ (8 : Int) < b.surveys.length then 2
  else if inZ b.first 0 b.room = false ∨ inZ b.unsure 0 40 = false ∨ b.months.all (moR b) = false then 3
  else if b.surveys.all (suR1 b) = false then 3
  else if b.surveys.all (suR2 b) = false then 1
  else 0
theorem bedCheck_c (b : Bd) (h1 : b.months.length ≤ 100000) (h2 : b.surveys.length ≤ 100000) : Comp Tryz.prog 187 [bedA b] (.int .i64 (bedE b)) := by
  have e1 : ((b.months.map moA).length : Int) = b.months.length := by rw [List.length_map]
  have e2 : ((b.surveys.map suA).length : Int) = b.surveys.length := by rw [List.length_map]
  have hm := every_mo b.nlm b.months 200 [bedA b] (moR b) (by simp only [lowL, bedL]; rfl) h1 fun x _ => bedRight_c b x
  have hs1 := every_su b.nls b.surveys 202 [.pim (bedC b)] (suR1 b) (by simp only [lowL, AV.low, lowBd]; rfl) h2 fun x _ => check1_c b x
  have hs2 := every_su b.nls b.surveys 204 [.pim (bedC b)] (suR2 b) (by simp only [lowL, AV.low, lowBd]; rfl) h2 fun x _ => check2_c b x h1
  have hE : bedE b = if inZ b.room 1 120 = false then 3 else if inZ ((b.months.map moA).length : Int) 1 10 = false ∨ (8 : Int) < b.surveys.length then 2 else if inZ b.first 0 b.room = false ∨ inZ b.unsure 0 40 = false ∨ b.months.all (moR b) = false then 3 else if b.surveys.all (suR1 b) = false then 3 else if b.surveys.all (suR2 b) = false then 1 else 0 := by rw [e1]; rfl
  rw [hE]
  generalize b.months.all (moR b) = r1 at hm
  generalize b.surveys.all (suR1 b) = r2 at hs1
  generalize b.surveys.all (suR2 b) = r3 at hs2
  refine Comp.body (T := tab) (res := [.tmp 2]) tab_ok [] Tryz.func187 rfl (by kernel_rfl) Tryz.ntmps187 rfl (by simp only [List.length_cons, List.length_nil]; decide) (by simp only [lowL, bedL]; rfl) ?_; conv => whnf
  repeat' first | ((first | (with_reducible apply XBr.tt) | (with_reducible apply XBr.ff)); conv => whnf) | (with_reducible apply XBr.not) | ((with_reducible apply XBr.dec) <;> (intro h; first | (exfalso; omega) | ((try simp only [List.length_map] at h); first | (exfalso; omega) | (conv => whnf)))) | ((first | (refine XCall.ret (bedIn_c _ _ _) ?_) | (refine XCall.ret (bedAmount_c b _) ?_) | (refine XCall.ret hm ?_) | (refine XCall.ret hs1 ?_) | (refine XCall.ret hs2 ?_)); conv => whnf) | ((with_reducible apply XBr.mk') <;> (intro h; conv => whnf)) | fail
  all_goals refine XOut.int ?_
  all_goals clear hE hm hs1 hs2 e1 e2
  all_goals simp [*, -List.length_map]
def chA (sp st : Int) : AV := .agg [.int .i64 sp, .int .i64 st]
def grossR (room g a sp st : Int) : Int := max 0 (min room (a + a * g / 100 + sp) - st)
theorem grossR_le {room g a sp st : Int} (h : 0 ≤ room) (h2 : 0 ≤ st) : 0 ≤ grossR room g a sp st ∧ grossR room g a sp st ≤ room := by
  unfold grossR; omega
theorem gross_c (b : Bd) (k : Nat) (a sp st : Int) (hk : k < b.months.length) (h1 : 0 ≤ a) (h2 : a ≤ 1000) (h3 : 0 ≤ (b.months.getD k default).g) (h4 : (b.months.getD k default).g ≤ 100) (h5 : 0 ≤ b.room) (h6 : b.room ≤ 1000) (h7 : 0 ≤ sp) (h8 : sp ≤ 1000) (h9 : 0 ≤ st) (h10 : st ≤ 1000) :
    Comp Tryz.prog 96 [bedA b, natA k, .int .i64 a, chA sp st] (.int .i64 (grossR b.room (b.months.getD k default).g a sp st)) := by
  have e1 : ((b.months.map moA).length : Int) = b.months.length := by rw [List.length_map]
  have q1 : 0 ≤ a * (b.months.getD k default).g := Int.mul_nonneg h1 h3
  have q2 : a * (b.months.getD k default).g ≤ 1000 * 100 := Int.mul_le_mul h2 h4 h3 (by omega)
  have q3 : (a * (b.months.getD k default).g).tdiv 100 = (a * (b.months.getD k default).g) / 100 := Int.tdiv_eq_ediv_of_nonneg q1
  have hg := bedGreatest_c 0 false [min b.room (a + a * (b.months.getD k default).g / 100 + sp) - st] (by simp)
  refine Comp.body (T := tab) (res := [.tmp 8]) tab_ok [] Tryz.func96 rfl (by kernel_rfl) Tryz.ntmps96 rfl (by simp only [List.length_cons, List.length_nil]; decide) (by simp only [lowL, bedL, AV.low]; rfl) ?_; conv => whnf
  apply Walk.drawX tab_ok mixed_ok [] [] (hsK _) [_, _, _, _, _, _, _, _, _, _, _, .int .i64 (a * (b.months.getD k default).g / 100), _, _, _, _, _, _, _, _, _, _, _] (by kernel_rfl) rfl
  · skip
    repeat' first | ((with_reducible refine XInt.i64 (by omega) (by omega) ?_); conv => whnf) | ((with_reducible refine XHold.mk ?_ ?_); (first | omega | rfl | decide | exact ⟨rfl, by decide, rfl⟩ | exact wideI _ | exact widePr _ | exact wideSk _ | (unfold Room; constructor <;> ((try simp) <;> omega)) | exact ⟨rfl, by simp only [List.length_map], by unfold Room; constructor <;> ((try simp) <;> omega)⟩ | exact ⟨by omega, by omega, by unfold Room; constructor <;> ((try simp) <;> omega)⟩); conv => whnf) | (((with_reducible refine XIx.nat ?_ ?_ ?_); omega; (intro _; rfl)); conv => whnf) | (with_reducible apply XAnd.mk) | ((first | (with_reducible apply Chk.go) | (with_reducible apply ChkA.go)); conv => whnf) | (exact XSame.mk rfl rfl) | (with_reducible exact trivial) | ((refine XCall.ret hg ?_); conv => whnf) | ((refine XSame.mk (by rw [q3]) rfl)) | fail
  · skip
    repeat' first | (with_reducible apply XAnd.mk) | ((first | (with_reducible apply ChkF.go) | (with_reducible apply ChkB.go)); conv => whnf) | (with_reducible exact trivial) | fail
  conv => whnf
  skip
  all_goals exact XOut.int rfl
theorem worst_c (m : Mo) : Comp Tryz.prog 97 [moA m] (chA m.pl m.th) := by
  refine Comp.body (T := tab) (res := [.cell 2 161]) tab_ok [] Tryz.func97 rfl (by kernel_rfl) Tryz.ntmps97 rfl (by simp only [List.length_cons, List.length_nil]; decide) (by rfl) ?_; conv => whnf
  skip
  exact ⟨.low rfl⟩
def leastR (b : Bd) : Int := max 0 (b.first - b.unsure)
theorem least_c (b : Bd) (h1 : 0 ≤ b.first) (h2 : b.first ≤ 1000) (h3 : 0 ≤ b.unsure) (h4 : b.unsure ≤ 1000) : Comp Tryz.prog 99 [bedA b] (.int .i64 (leastR b)) := by
  have hg := bedGreatest_c 0 false [b.first - b.unsure] (by simp)
  refine Comp.body (T := tab) (res := [.tmp 2]) tab_ok [] Tryz.func99 rfl (by kernel_rfl) Tryz.ntmps99 rfl (by simp only [List.length_cons, List.length_nil]; decide) (by simp only [lowL, bedL]; rfl) ?_; conv => whnf
  repeat' first | ((with_reducible refine XInt.i64 (by omega) (by omega) ?_); conv => whnf) | ((with_reducible refine XHold.mk ?_ ?_); (first | omega | rfl | decide | exact ⟨rfl, by decide, rfl⟩ | exact wideI _ | exact widePr _ | exact wideSk _ | (unfold Room; constructor <;> ((try simp) <;> omega)) | exact ⟨rfl, by simp only [List.length_map], by unfold Room; constructor <;> ((try simp) <;> omega)⟩ | exact ⟨by omega, by omega, by unfold Room; constructor <;> ((try simp) <;> omega)⟩); conv => whnf) | ((refine XCall.ret hg ?_); conv => whnf) | fail
  all_goals exact XOut.int rfl
def dsk (b : Bd) : List Blk := [.map [], .cells (bedC b ++ [.mp 0])]
theorem dsk_ren (b : Bd) (f : Nat → Nat) (n : Nat) (h : f 0 = n) : (Blk.cells (bedC b ++ [.mp 0])).ren f = .cells (bedC b ++ [.mp n]) := by
  simp only [Blk.ren, renL_eq, List.map_append]
  rw [← renL_eq, renL_low0 (lowBd b)]
  simp only [List.map_cons, List.map_nil, AV.ren, h]
theorem dsk_low (b : Bd) : ∀ x ∈ dsk b, x.low (dsk b).length = true := fun x hx => by
  simp only [dsk, List.mem_cons, List.not_mem_nil, or_false] at hx
  rcases hx with rfl | rfl
  · rfl
  · simp only [Blk.low, bedC, List.cons_append, List.nil_append, lowL, AV.low, lowMo, lowSu]; rfl
theorem bedOpened_c (b : Bd) (hE : bedE b = 0) (h1 : b.months.length ≤ 100000) (hs : b.surveys = []) : Gives Tryz.prog 159 [bedA b] (.tup [.ptr 1 0, .int .i64 0]) (dsk b) := by
  have hc := bedCheck_c b h1 (by rw [hs]; simp)
  rw [hE] at hc
  have e2 : ((b.surveys.map suA).length : Int) = 0 := by rw [hs]; rfl
  refine Gives.body (T := tab) (res := [.tmp 2, .tmp 3]) tab_ok [16] Tryz.func159 rfl (by kernel_rfl) Tryz.ntmps159 rfl (by simp only [List.length_cons, List.length_nil]; decide) (by simp only [lowL, bedL]; rfl) rfl (dsk_low b) ?_; conv => whnf
  repeat' first | ((with_reducible apply XBr.bne) <;> (intro h; first | (exfalso; omega) | (conv => whnf))) | ((refine XCall.ret hc ?_); conv => whnf) | fail
  refine Walk.loop tab_ok [] (fun _ : Unit => True) (fun _ => [(2, .nilp), (3, .int .i64 0), (5, .ptr 1 0), (19, .int .i64 (b.surveys.map suA).length), (20, .int .i64 0)]) (fun _ => dsk b) (fun _ => 0) () trivial rfl ⟨rfl, rfl, rfl, rfl, rfl, trivial⟩ ?_
  intro _ _
  conv => whnf
  repeat' first | ((with_reducible apply XBr.dec) <;> (intro h; first | (exfalso; omega) | ((try simp only [List.length_map] at h); first | (exfalso; omega) | (conv => whnf)))) | fail
  exact XGive.mk' [0, 1] rfl (by decide) ⟨rfl, congrArg some (dsk_ren b _ 0 rfl).symm, trivial⟩ rfl
theorem bedShared_c (b : Bd) (share : Int) (hE : bedE b = 0) (h1 : b.months.length ≤ 100000) (hs : b.surveys = []) : Gives Tryz.prog 95 [bedA b, .int .i64 share] (.tup [.ptr 1 0, .int .i64 (if inZ share 0 b.room = true then 0 else 3)]) (dsk b) := by
  have ho := bedOpened_c b hE h1 hs
  have ha := bedAmount_c b share
  generalize inZ share 0 b.room = r at ha
  refine Gives.body (T := tab) (res := [.tmp 4, .tmp 5]) tab_ok [] Tryz.func95 rfl (by kernel_rfl) Tryz.ntmps95 rfl (by simp only [List.length_cons, List.length_nil]; decide) (by simp only [lowL, bedL, AV.low]; rfl) rfl (dsk_low b) ?_; conv => whnf
  refine XCall.give ho ?_
  conv => whnf
  repeat' first | ((with_reducible apply XBr.tt); conv => whnf) | (with_reducible apply XBr.not) | ((with_reducible apply XBr.beq) <;> (intro h; first | (exfalso; omega) | (conv => whnf))) | ((refine XCall.ret ha ?_); conv => whnf) | ((with_reducible apply XBr.mk') <;> (intro h; conv => whnf)) | fail
  all_goals exact XGive.mk' [0, 1] rfl (by decide) ⟨rfl, congrArg some ((dsk_ren b _ 0 rfl).trans (dsk_ren b _ 0 rfl).symm), trivial⟩ (by rw [h]; rfl)
theorem XCall.shared {b : Bd} {share : Int} {H : List Blk} {k : AV → List Blk → Prop} (hE : bedE b = 0) (h1 : b.months.length ≤ 100000) (hs : b.surveys = []) (hsh : inZ share 0 b.room = true)
    (hk : k (.tup [.ptr (H.length + 1) 0, .int .i64 0]) (H ++ [.map [], .cells (bedC b ++ [.mp H.length])])) : XCall Tryz.prog 95 [bedA b, .int .i64 share] H k := by
  have hg := bedShared_c b share hE h1 hs
  rw [if_pos hsh] at hg
  refine XCall.give hg ?_
  have e : (dsk b).map (Blk.ren (H.length + ·)) = [.map [], .cells (bedC b ++ [.mp H.length])] := by
    show [Blk.ren (H.length + ·) (.map []), Blk.ren (H.length + ·) (.cells (bedC b ++ [.mp 0]))] = _
    rw [dsk_ren b (H.length + ·) H.length (Nat.add_zero _)]; rfl
  rw [e]; exact hk
def arrA (r : List Int) : AV := .agg (ints r)
def putC (rows : List (List Int)) (e i : Nat) (v : Int) : List (List Int) := rows.set e ((rows.getD e default).set i v)
structure RowsOk (rows : List (List Int)) (n w : Nat) : Prop where
  n : rows.length = n
  w : ∀ r ∈ rows, r.length = w
theorem RowsOk.at {rows : List (List Int)} {n w : Nat} (o : RowsOk rows n w) {e : Nat} (he : e < n) : (rows.getD e default).length = w := o.w _ (getD_mem (by rw [o.n]; exact he))
theorem RowsOk.put {rows : List (List Int)} {n w : Nat} (o : RowsOk rows n w) (e i : Nat) (v : Int) (he : e < n) : RowsOk (putC rows e i v) n w := by
  refine ⟨by unfold putC; rw [List.length_set]; exact o.n, fun r hr => ?_⟩
  unfold putC at hr
  rcases List.mem_or_eq_of_mem_set hr with h | rfl
  · exact o.w r h
  · rw [List.length_set]; exact o.at he
def cellAt (rows : List (List Int)) (e i : Nat) : Int := (rows.getD e default).getD i default
theorem cellAt_put {rows : List (List Int)} {n w : Nat} (o : RowsOk rows n w) {e i : Nat} (v : Int) (he : e < n) (hi : i < w) (e' i' : Nat) : cellAt (putC rows e i v) e' i' = if e' = e ∧ i' = i then v else cellAt rows e' i' := by
  unfold cellAt putC
  have hr := o.at he
  by_cases h1 : e' = e
  · subst h1
    rw [List.getD_eq_getElem?_getD (l := rows.set _ _), List.getElem?_set_self (by rw [o.n]; exact he), Option.getD_some]
    by_cases h2 : i' = i
    · subst h2
      rw [if_pos ⟨rfl, rfl⟩, List.getD_eq_getElem?_getD, List.getElem?_set_self (by rw [hr]; exact hi)]; rfl
    · rw [if_neg (fun h => h2 h.2), List.getD_eq_getElem?_getD, List.getElem?_set_ne (fun h => h2 h.symm), ← List.getD_eq_getElem?_getD]
  · rw [if_neg (fun h => h1 h.1), List.getD_eq_getElem?_getD (l := rows.set _ _), List.getElem?_set_ne (fun h => h1 h.symm), ← List.getD_eq_getElem?_getD]
theorem xdrop_ints {xs : List Int} {o : Nat} {k : List AV → Prop} (i : Nat) (ho : o = i) (hi : i < xs.length) (h : k (.int .i64 (xs.getD i default) :: (ints xs).drop (i + 1))) : xdrop o (ints xs) k := by
  subst ho
  refine xdrop_at _ ?_ h
  rw [List.getElem?_map, List.getElem?_eq_getElem hi, List.getD_eq_getElem?_getD, List.getElem?_eq_getElem hi]; rfl
theorem XStorePart {o : Nat} {A : Unit → Prop} {B : Nat → Bool → Prop} (h : B o false) : xStore.match_1 (fun _ _ => Prop) o false A B := by
  cases o <;> exact h
theorem XPutPart.rows {els : List AV} {n e' o w : Nat} {v : Int} {k : List AV → Prop} (rows : List (List Int)) (e i : Nat) (he : e = e') (hE : els = rows.map arrA) (h1 : n = rows.length) (h2 : e < n) (hw : (rows.getD e default).length = w) (ho : o = i) (hi : i < w)
    (h : k ((putC rows e i v).map arrA)) : XPutPart els n e' o w [.int .i64 v] k := by
  subst he; subst hE; subst ho
  have hg : (rows.map arrA).getD e default = arrA (rows.getD e default) := by
    rw [List.getD_eq_getElem?_getD, List.getElem?_map, List.getD_eq_getElem?_getD, List.getElem?_eq_getElem (by omega)]; rfl
  refine ⟨by rw [List.length_map]; exact h1, h2, by simp; omega, by rw [hg]; rfl, ?_⟩
  rw [hg]
  show k ((rows.map arrA).set e (.agg (splice (ints (rows.getD e default)) o [.int .i64 v])))
  have : splice (ints (rows.getD e default)) o [.int .i64 v] = ints ((rows.getD e default).set o v) := by
    rw [ints, ints, List.map_set]
    have hl : o < ((rows.getD e default).map (AV.int .i64)).length := by rw [List.length_map]; omega
    rw [List.set_eq_take_append_cons_drop, if_pos hl]
    simp [splice]
  rw [this]
  unfold putC at h
  rw [List.map_set] at h
  exact h

structure BedOk (b : Bd) : Prop where
  r1 : 1 ≤ b.room
  r2 : b.room ≤ 120
  m1 : 1 ≤ b.months.length
  m2 : b.months.length ≤ 10
  f1 : 0 ≤ b.first
  f2 : b.first ≤ b.room
  u1 : 0 ≤ b.unsure
  u2 : b.unsure ≤ 40
  mo : ∀ m ∈ b.months, 0 ≤ m.g ∧ m.g ≤ 100 ∧ 0 ≤ m.r ∧ m.r ≤ b.room ∧ 0 ≤ m.pl ∧ m.pl ≤ m.ph ∧ m.ph ≤ 60 ∧ 0 ≤ m.tl ∧ m.tl ≤ m.th ∧ m.th ≤ 60
theorem bedE_ok (b : Bd) (hs : b.surveys = []) : bedE b = 0 ↔ BedOk b := by
  unfold bedE
  rw [hs]
  constructor
  · intro h
    split at h; · cases h
    split at h; · cases h
    split at h; · cases h
    rename_i h1 h2 h3
    simp only [Bool.not_eq_false, not_or, inZ_iff, List.all_eq_true, moR, withinB, Bool.and_eq_true] at h1 h2 h3
    exact ⟨h1.1, h1.2, by omega, by omega, h3.1.1, h3.1.2, h3.2.1.1, h3.2.1.2, fun m hm => by have := h3.2.2 m hm; omega⟩
  · intro o
    have h1 := o.r1; have h2 := o.r2; have h3 := o.m1; have h4 := o.m2; have h5 := o.f1; have h6 := o.f2; have h7 := o.u1; have h8 := o.u2
    have hm : b.months.all (moR b) = true := List.all_eq_true.2 fun m hm => by
      have := o.mo m hm
      simp only [moR, withinB, Bool.and_eq_true, inZ_iff]; omega
    rw [if_neg (by rw [inZ_iff.2 ⟨h1, h2⟩]; simp), if_neg (by rw [inZ_iff.2 ⟨by omega, by omega⟩]; simp), if_neg (by rw [inZ_iff.2 ⟨h5, h6⟩, inZ_iff.2 ⟨h7, h8⟩, hm]; simp)]
    rfl
def lieR (b : Bd) (j n : Nat) : Int := grossR b.room (b.months.getD j default).g n (b.months.getD j default).pl (b.months.getD j default).th
theorem lieR_b {b : Bd} (o : BedOk b) {j n : Nat} (hj : j < b.months.length) : 0 ≤ lieR b j n ∧ lieR b j n ≤ b.room := by
  have hm := o.mo _ (getD_mem (d := default) hj)
  have := o.r1
  exact grossR_le (by omega) (by omega)
def stepM (nx : Nat → Int) (lies : Nat) : Nat → Int
  | 0 => -1
  | r + 1 => if nx (lies - r) = -1 then stepM nx lies r else max (stepM nx lies r) (r + nx (lies - r))
def valM (b : Bd) (share : Int) : Nat → Nat → Int
  | 0, q => if share ≤ q then 0 else -1
  | k + 1, q => stepM (valM b share k) (lieR b (b.months.length - (k + 1)) q).toNat ((lieR b (b.months.length - (k + 1)) q).toNat + 1)
theorem stepM_b {nx : Nat → Int} {lies c : Nat} (h : ∀ q, q ≤ lies → -1 ≤ nx q ∧ nx q ≤ c) : ∀ r, r ≤ lies + 1 → -1 ≤ stepM nx lies r ∧ stepM nx lies r ≤ c + lies
  | 0, _ => by simp only [stepM]; omega
  | r + 1, hr => by
    have ih := stepM_b h r (by omega)
    have := h (lies - r) (by omega)
    unfold stepM
    split <;> omega
theorem valM_b {b : Bd} (o : BedOk b) (share : Int) : ∀ k, k ≤ b.months.length → ∀ q, -1 ≤ valM b share k q ∧ valM b share k q ≤ 120 * k
  | 0, _, q => by unfold valM; split <;> omega
  | k + 1, hk, q => by
    have hl := lieR_b o (j := b.months.length - (k + 1)) (n := q) (by have := o.m1; omega)
    have := o.r2
    have := stepM_b (nx := valM b share k) (lies := (lieR b (b.months.length - (k + 1)) q).toNat) (c := 120 * k) (fun q _ => valM_b o share k (by omega) q) _ (Nat.le_refl _)
    unfold valM
    omega
def rakeM (nx : Nat → Int) (lies : Nat) (v : Int) (r : Nat) : Bool := nx (lies - r) != -1 && ((r : Int) + nx (lies - r) == v)
def planM (b : Bd) (share : Int) : Nat → Nat → List Int
  | 0, _ => []
  | k + 1, a => match (List.range ((lieR b (b.months.length - (k + 1)) a).toNat + 1)).find? (rakeM (valM b share k) (lieR b (b.months.length - (k + 1)) a).toNat (valM b share (k + 1) a)) with
    | some r => (r : Int) :: planM b share k ((lieR b (b.months.length - (k + 1)) a).toNat - r)
    | none => planM b share k a
theorem planM_some {b : Bd} {share : Int} {k a lies r : Nat} (hl : lieR b (b.months.length - (k + 1)) a = lies) (hr : r ≤ lies) (h : rakeM (valM b share k) lies (valM b share (k + 1) a) r = true) (h2 : ∀ q, q < r → rakeM (valM b share k) lies (valM b share (k + 1) a) q = false) :
    planM b share (k + 1) a = (r : Int) :: planM b share k (lies - r) := by
  have : (List.range (lies + 1)).find? (rakeM (valM b share k) lies (valM b share (k + 1) a)) = some r := List.find?_range_eq_some.2 ⟨h, List.mem_range.2 (by omega), fun j hj => by rw [h2 j hj]; rfl⟩
  show (match (List.range ((lieR b (b.months.length - (k + 1)) a).toNat + 1)).find? (rakeM (valM b share k) (lieR b (b.months.length - (k + 1)) a).toNat (valM b share (k + 1) a)) with | some r => (r : Int) :: planM b share k ((lieR b (b.months.length - (k + 1)) a).toNat - r) | none => planM b share k a) = _
  rw [hl, Int.toNat_natCast, this]
theorem planM_none {b : Bd} {share : Int} {k a lies : Nat} (hl : lieR b (b.months.length - (k + 1)) a = lies) (h2 : ∀ q, q < lies + 1 → rakeM (valM b share k) lies (valM b share (k + 1) a) q = false) :
    planM b share (k + 1) a = planM b share k a := by
  have : (List.range (lies + 1)).find? (rakeM (valM b share k) lies (valM b share (k + 1) a)) = none := List.find?_range_eq_none.2 fun j hj => by rw [h2 j hj]; rfl
  show (match (List.range ((lieR b (b.months.length - (k + 1)) a).toNat + 1)).find? (rakeM (valM b share k) (lieR b (b.months.length - (k + 1)) a).toNat (valM b share (k + 1) a)) with | some r => (r : Int) :: planM b share k ((lieR b (b.months.length - (k + 1)) a).toNat - r) | none => planM b share k a) = _
  rw [hl, Int.toNat_natCast, this]
def mostA (b : Bd) (share : Int) : AV := if valM b share b.months.length (leastR b).toNat = -1 then .tup [.sl true [], .int .i64 6] else .tup [slA (planM b share b.months.length (leastR b).toNat), .int .i64 0]
set_option maxHeartbeats 1000000 in
theorem most_c (b : Bd) (share : Int) (hE : bedE b = 0) (hs : b.surveys = []) (hsh : 0 ≤ share ∧ share ≤ b.room) : Comp Tryz.prog 19 [bedA b, .int .i64 share] (mostA b share) := by
  have ok := (bedE_ok b hs).1 hE
  have m1 := ok.m1
  have m2 := ok.m2
  have r1 := ok.r1
  have r2 := ok.r2
  have hi : inZ share 0 b.room = true := inZ_iff.2 hsh
  have e1 : ((b.months.map moA).length : Int) = b.months.length := by rw [List.length_map]
  refine Comp.body (T := tab) (res := [.tmp 4, .tmp 5]) tab_ok [] Tryz.func19 rfl (by kernel_rfl) Tryz.ntmps19 rfl (by simp only [List.length_cons, List.length_nil]; decide) (by simp only [lowL, bedL, AV.low]; rfl) ?_; conv => whnf
  refine XCall.shared hE (by omega) hs hi ?_
  conv => whnf
  repeat' first | ((with_reducible apply XBr.bne) <;> (intro h; first | (exfalso; omega) | (conv => whnf))) | ((with_reducible refine XInt.i64 (by omega) (by omega) ?_); conv => whnf) | ((with_reducible refine XHold.mk ?_ ?_); (first | omega | rfl | decide | exact ⟨rfl, by decide, rfl⟩ | exact wideI _ | exact widePr _ | exact wideSk _ | (unfold Room; constructor <;> ((try simp) <;> omega)) | exact ⟨rfl, by simp only [List.length_map], by unfold Room; constructor <;> ((try simp) <;> omega)⟩ | exact ⟨by omega, by omega, by unfold Room; constructor <;> ((try simp) <;> omega)⟩); conv => whnf) | fail
  refine Walk.loop tab_ok [] (fun g : Nat × List (List Int) => g.1 ≤ 121 ∧ RowsOk g.2 (b.months.length + 1) 121 ∧ ∀ q, q < g.1 → cellAt g.2 b.months.length q = valM b share 0 q)
    (fun g => [(1, .int .i64 share), (2, .pim (bedC b)), (4, .sl true []), (5, .int .i64 0), (6, .ptr 1 0), (8, .gr 2 (b.months.length + 1)), (35, natA g.1)]) (fun g => [.map [], .cells (bedC b ++ [.mp 0]), .grow 170 false (g.2.map arrA)]) (fun g => 121 - g.1) (0, List.replicate (b.months.length + 1) (List.replicate 121 0)) ⟨Nat.zero_le _, ⟨by simp, fun r hr => by rw [List.eq_of_mem_replicate hr]; simp⟩, fun q hq => by omega⟩ ?_ ⟨rfl, rfl, rfl, rfl, rfl, ?_, rfl, trivial⟩ ?_
  · show _ = [Blk.map [], Blk.cells (bedC b ++ [.mp 0]), Blk.grow 170 false (List.replicate (((b.months.map moA).length : Int) + 1).toNat (AV.agg (List.replicate 121 (AV.int .i64 0))))]
    rw [show (((b.months.map moA).length : Int) + 1).toNat = b.months.length + 1 by omega, List.map_replicate]
    rfl
  · exact congrArg (fun n => some (AV.gr 2 n)) (by omega)
  rintro ⟨n, rows⟩ ⟨hn, ro, hv⟩
  dsimp only at hn ro hv ⊢
  have ro1 := ro.put b.months.length n (-1) (by omega)
  have c1 := fun (h : n < 121) => cellAt_put ro (-1) (show b.months.length < b.months.length + 1 by omega) h
  have c2 := fun (h : n < 121) => cellAt_put ro1 0 (show b.months.length < b.months.length + 1 by omega) h
  conv => whnf
  repeat' first | ((with_reducible apply XBr.dec) <;> (intro h; first | (exfalso; omega) | ((try simp only [List.length_map] at h); first | (exfalso; omega) | (conv => whnf)))) | ((first | (with_reducible refine XInt.i64 (by omega) (by omega) ?_) | (refine XHold.mk ⟨by rw [List.length_map]; first | exact ro.n | exact ro1.n, rfl, by omega, by omega⟩ ?_) | (refine XArr.mk (by omega) (by omega) ?_) | (refine XStorePart ?_) | (refine XPutPart.rows (w := 121) rows b.months.length n (by omega) rfl ro.n.symm (by omega) (ro.at (by omega)) (by omega) (by omega) ?_) | (refine XPutPart.rows (w := 121) _ b.months.length n (by omega) rfl ro1.n.symm (by omega) (ro1.at (by omega)) (by omega) (by omega) ?_)); conv => whnf) | fail
  · refine XAgain.go (n + 1, putC (putC rows b.months.length n (-1)) b.months.length n 0) ⟨by dsimp only; omega, ro1.put _ _ _ (by omega), fun q hq => ?_⟩ (by dsimp only; omega) rfl ⟨rfl, rfl, rfl, rfl, rfl, rfl, rfl, trivial⟩
    dsimp only at hq ⊢
    rw [c2 (by omega)]
    by_cases hqn : q = n
    · rw [if_pos ⟨rfl, hqn⟩, hqn]; unfold valM; rw [if_pos h]
    · rw [if_neg (fun h => hqn h.2), c1 (by omega), if_neg (fun h => hqn h.2), hv q (by omega)]
  · refine XAgain.go (n + 1, putC rows b.months.length n (-1)) ⟨by dsimp only; omega, ro1, fun q hq => ?_⟩ (by dsimp only; omega) rfl ⟨rfl, rfl, rfl, rfl, rfl, rfl, rfl, trivial⟩
    dsimp only at hq ⊢
    rw [c1 (by omega)]
    by_cases hqn : q = n
    · rw [if_pos ⟨rfl, hqn⟩, hqn]; unfold valM; rw [if_neg h]
    · rw [if_neg (fun h => hqn h.2), hv q (by omega)]
  clear ro1 c1 c2
  obtain rfl : n = 121 := by omega
  refine Walk.loop tab_ok [] (fun g : Nat × List (List Int) => g.1 ≤ b.months.length ∧ RowsOk g.2 (b.months.length + 1) 121 ∧ ∀ i, i ≤ g.1 → ∀ q : Nat, (q : Int) ≤ b.room → cellAt g.2 (b.months.length - i) q = valM b share i q)
    (fun g => [(2, .pim (bedC b)), (4, .sl true []), (5, .int .i64 0), (6, .ptr 1 0), (8, .gr 2 (b.months.length + 1)), (10, .int .i64 (((b.months.map moA).length : Int) - 1 - g.1))]) (fun g => [.map [], .cells (bedC b ++ [.mp 0]), .grow 170 false (g.2.map arrA)]) (fun g => b.months.length - g.1) (0, rows)
    ⟨Nat.zero_le _, ro, fun i hi q hq => by obtain rfl : i = 0 := by { dsimp only at hi; omega }; exact hv q (by omega)⟩ rfl ⟨rfl, rfl, rfl, rfl, rfl, congrArg (fun z => some (AV.int .i64 z)) (by dsimp only; omega), trivial⟩ ?_
  clear hv ro
  rintro ⟨k, rows⟩ ⟨hk, ro, hv⟩
  dsimp only at hk ro hv ⊢
  conv => whnf
  repeat' first | ((with_reducible apply XBr.dec) <;> (intro h; first | (exfalso; omega) | ((try simp only [List.length_map] at h); first | (exfalso; omega) | (conv => whnf)))) | ((with_reducible refine XInt.i64 (by omega) (by omega) ?_); conv => whnf) | fail
  · obtain ⟨j, hj⟩ : ∃ j, j = b.months.length - (k + 1) := ⟨_, rfl⟩
    have hj1 : j + 1 = b.months.length - k := by omega
    have hjm := ok.mo _ (getD_mem (d := default) (show j < b.months.length by omega))
    refine Walk.loop tab_ok [] (fun g : Nat × List (List Int) => (g.1 : Int) ≤ b.room + 1 ∧ RowsOk g.2 (b.months.length + 1) 121 ∧ (∀ i, i ≤ k → ∀ q : Nat, (q : Int) ≤ b.room → cellAt g.2 (b.months.length - i) q = valM b share i q) ∧ ∀ q, q < g.1 → cellAt g.2 j q = valM b share (k + 1) q)
      (fun g => [(2, .pim (bedC b)), (4, .sl true []), (5, .int .i64 0), (6, .ptr 1 0), (8, .gr 2 (b.months.length + 1)), (10, natA j), (66, .int .i64 (b.room + 1)), (67, natA g.1)]) (fun g => [.map [], .cells (bedC b ++ [.mp 0]), .grow 170 false (g.2.map arrA)]) (fun g => b.room.toNat + 1 - g.1) (0, rows)
      ⟨by dsimp only; omega, ro, hv, fun q hq => by dsimp only at hq; omega⟩ rfl ⟨rfl, rfl, rfl, rfl, rfl, congrArg (fun z => some (AV.int .i64 z)) (by omega), rfl, rfl, trivial⟩ ?_
    clear hv ro
    rintro ⟨n, rows⟩ ⟨hn, ro, hv, hw⟩
    dsimp only at hn ro hv hw ⊢
    have ro1 := ro.put j n (-1) (by omega)
    have c1 := fun (h : n < 121) => cellAt_put ro (-1) (show j < b.months.length + 1 by omega) h
    have hgr := fun (h : n < 121) => gross_c b j n (b.months.getD j default).pl (b.months.getD j default).th (by omega) (by omega) (by omega) (by omega) (by omega) (by omega) (by omega) (by omega) (by omega) (by omega) (by omega)
    have hlb := lieR_b ok (j := j) (n := n) (by omega)
    conv => whnf
    repeat' first | ((with_reducible apply XBr.dec) <;> (intro h; first | (exfalso; omega) | ((try simp only [List.length_map] at h); first | (exfalso; omega) | (conv => whnf)))) | ((first | (with_reducible refine XInt.i64 (by omega) (by omega) ?_) | (refine XHold.mk ⟨by rw [List.length_map]; first | exact ro.n | exact ro1.n, rfl, by omega, by omega⟩ ?_) | (refine XArr.mk (by omega) (by omega) ?_) | (refine XStorePart ?_) | (refine XPutPart.rows (w := 121) rows j n (by omega) rfl ro.n.symm (by omega) (ro.at (by omega)) (by omega) (by omega) ?_)); conv => whnf) | fail
    · have hgc := hgr (by omega)
      change Comp Tryz.prog _ _ (.int .i64 (lieR b j n)) at hgc
      apply Walk.drawX tab_ok mixed_ok [] [] (hsK _) [_, _, _, _, _, _, _, _, _, _, _, _, _, _] (by kernel_rfl) rfl
      · skip
        repeat' first | (((with_reducible refine XIx.nat ?_ ?_ ?_); omega; (intro _; rfl)); conv => whnf) | (with_reducible apply XAnd.mk) | ((first | (with_reducible apply Chk.go) | (with_reducible apply ChkA.go)); conv => whnf) | (exact XSame.mk rfl rfl) | (with_reducible exact trivial) | ((first | (refine XCall.ret (worst_c (b.months.getD j default)) ?_) | (refine XCall.ret hgc ?_)); conv => whnf) | fail
      · skip
        repeat' first | (with_reducible apply XAnd.mk) | ((first | (with_reducible apply ChkF.go) | (with_reducible apply ChkB.go)); conv => whnf) | (with_reducible exact trivial) | fail
      conv => whnf
      repeat' first | ((with_reducible refine XInt.i64 (by omega) (by omega) ?_); conv => whnf) | fail
      obtain ⟨li, hli⟩ : ∃ li : Nat, lieR b j n = li := ⟨(lieR b j n).toNat, by omega⟩
      have hstep : valM b share (k + 1) n = stepM (valM b share k) li (li + 1) := by
        show stepM _ (lieR b (b.months.length - (k + 1)) n).toNat ((lieR b (b.months.length - (k + 1)) n).toNat + 1) = _
        rw [← hj, hli]; rfl
      rw [hli] at hlb ⊢
      have c1' := c1 (by omega)
      refine Walk.loop tab_ok [] (fun g : Nat × List (List Int) => g.1 ≤ li + 1 ∧ RowsOk g.2 (b.months.length + 1) 121 ∧ (∀ i, i ≤ k → ∀ q : Nat, (q : Int) ≤ b.room → cellAt g.2 (b.months.length - i) q = valM b share i q) ∧ (∀ q, q < n → cellAt g.2 j q = valM b share (k + 1) q) ∧ cellAt g.2 j n = stepM (valM b share k) li g.1)
        (fun g => [(2, .pim (bedC b)), (4, .sl true []), (5, .int .i64 0), (6, .ptr 1 0), (8, .gr 2 (b.months.length + 1)), (10, natA j), (11, natA n), (12, natA li), (66, .int .i64 (b.room + 1)), (67, natA n), (89, .int .i64 ((li : Int) + 1)), (90, natA g.1)]) (fun g => [.map [], .cells (bedC b ++ [.mp 0]), .grow 170 false (g.2.map arrA)]) (fun g => li + 1 - g.1) (0, putC rows j n (-1))
        ⟨Nat.zero_le _, ro1, fun i hi q hq => by dsimp only; rw [c1', if_neg (by omega), hv i hi q hq], fun q hq => by dsimp only; rw [c1', if_neg (by omega), hw q hq], by dsimp only; rw [c1', if_pos ⟨rfl, rfl⟩]; rfl⟩ rfl ⟨rfl, rfl, rfl, rfl, rfl, rfl, rfl, rfl, rfl, rfl, rfl, rfl, trivial⟩ ?_
      clear hv ro hw c1 c1' ro1 hgr
      rintro ⟨r, rows⟩ ⟨hr, ro, hv, hw, hc⟩
      dsimp only at hr ro hv hw hc ⊢
      have hnx := fun (h : r ≤ li) => hv k (Nat.le_refl k) (li - r) (by omega)
      have hnb := valM_b ok share k (by omega) (li - r)
      have hsb := stepM_b (nx := valM b share k) (lies := li) (c := 120 * k) (fun q _ => valM_b ok share k (by omega) q) r (by omega)
      have hst : stepM (valM b share k) li (r + 1) = if valM b share k (li - r) = -1 then stepM (valM b share k) li r else max (stepM (valM b share k) li r) (r + valM b share k (li - r)) := rfl
      have hvx := fun (h : r ≤ li) => (show (rows.getD ((j : Int) + 1).toNat default).getD (li - r) default = valM b share k (li - r) by rw [show ((j : Int) + 1).toNat = b.months.length - k by omega]; exact hnx h)
      have cp := fun v => cellAt_put ro v (show j < b.months.length + 1 by omega) (show n < 121 by omega)
      conv => whnf
      repeat' first | ((with_reducible apply XBr.dec) <;> (intro h; first | (exfalso; omega) | ((try simp only [List.length_map] at h); first | (exfalso; omega) | (conv => whnf)))) | ((with_reducible apply XBr.bne) <;> (intro h; first | (exfalso; omega) | (conv => whnf))) | ((first | (with_reducible refine XInt.i64 (by omega) (by omega) ?_) | (refine XHold.mk ⟨by rw [List.length_map]; exact ro.n, rfl, by omega, by omega⟩ ?_) | (refine XArr.mk (by omega) (by omega) ?_) | (refine XGet.map ro.n.symm (by omega) ?_) | (refine xdrop_ints (li - r) (by omega) (by rw [ro.at (by omega)]; omega) ?_)); conv => whnf) | fail
      · have hv1 := hvx (by omega)
        have hv2 : -1 ≤ (rows.getD ((j : Int) + 1).toNat default).getD (li - r) default ∧ (rows.getD ((j : Int) + 1).toNat default).getD (li - r) default ≤ 120 * k := by rw [hv1]; exact hnb
        apply Walk.drawX tab_ok mixed_ok [] [16] (hsV _ [id, fun H => H.set 2 (.grow 170 false ((putC rows j n (max ((rows.getD j default).getD n default) ((r : Int) + (rows.getD ((j : Int) + 1).toNat default).getD (li - r) default))).map arrA))]) [_, _, _, _, _, _, _, _, _, _, _, _, _, _, _, _, _] (by kernel_rfl) rfl
        · skip
          repeat' first | ((with_reducible refine XInt.i64 (by omega) (by omega) ?_); conv => whnf) | ((with_reducible refine XHold.mk ?_ ?_); (first | omega | rfl | decide | exact ⟨rfl, by decide, rfl⟩ | exact wideI _ | exact widePr _ | exact wideSk _ | (unfold Room; constructor <;> ((try simp) <;> omega)) | exact ⟨rfl, by simp only [List.length_map], by unfold Room; constructor <;> ((try simp) <;> omega)⟩ | exact ⟨by omega, by omega, by unfold Room; constructor <;> ((try simp) <;> omega)⟩); conv => whnf) | (with_reducible apply XAnd.mk) | ((first | (with_reducible apply Chk.go) | (with_reducible apply ChkA.go)); conv => whnf) | (exact XSame.mk rfl rfl) | (with_reducible exact trivial) | ((first | (refine XHold.mk ⟨by rw [List.length_map]; first | exact ro.n | exact (ro.put j n _ (by omega)).n, rfl, by omega, by omega⟩ ?_) | (refine XArr.mk (by omega) (by omega) ?_) | (refine XGet.map ro.n.symm (by omega) ?_) | (refine xdrop_ints n (by omega) (by rw [ro.at (by omega)]; omega) ?_) | (refine XCall.ret (bedGreatest_c _ false [_] (by simp)) ?_) | (refine XStorePart ?_) | (refine XPutPart.rows (w := 121) rows j n (by omega) rfl ro.n.symm (by omega) (ro.at (by omega)) (by omega) (by omega) ?_)); conv => whnf) | fail
        · skip
          repeat' first | (with_reducible apply XAnd.mk) | ((first | (with_reducible apply Chk.go) | (with_reducible apply ChkF.go) | (with_reducible apply ChkB.go)); conv => whnf) | (exact XSame.mk rfl rfl) | (with_reducible exact trivial) | ((refine XHold.mk ⟨by rw [List.length_map]; first | exact ro.n | exact (ro.put j n _ (by omega)).n, rfl, by omega, by omega⟩ ?_); conv => whnf) | fail
        conv => whnf
        repeat' first | ((with_reducible refine XInt.i64 (by omega) (by omega) ?_); conv => whnf) | fail
        have hcv : max ((rows.getD j default).getD n default) ((r : Int) + (rows.getD ((j : Int) + 1).toNat default).getD (li - r) default) = stepM (valM b share k) li (r + 1) := by
          rw [hst, if_neg (by rw [← hv1]; exact h), hv1, ← hc]; rfl
        refine XAgain.go (r + 1, putC rows j n (max ((rows.getD j default).getD n default) ((r : Int) + (rows.getD ((j : Int) + 1).toNat default).getD (li - r) default))) ⟨by dsimp only; omega, ro.put _ _ _ (by omega), fun i hi q hq => ?_, fun q hq => ?_, ?_⟩ (by dsimp only; omega) rfl ⟨rfl, rfl, rfl, rfl, rfl, rfl, rfl, rfl, rfl, rfl, rfl, rfl, trivial⟩
        · dsimp only; rw [cp, if_neg (by omega), hv i hi q hq]
        · dsimp only; rw [cp, if_neg (by omega), hw q hq]
        · dsimp only; rw [cp, if_pos ⟨rfl, rfl⟩, hcv]
      · refine XAgain.go (r + 1, rows) ⟨by dsimp only; omega, ro, hv, hw, ?_⟩ (by dsimp only; omega) rfl ⟨rfl, rfl, rfl, rfl, rfl, rfl, rfl, rfl, rfl, rfl, rfl, rfl, trivial⟩
        dsimp only
        rw [hc, hst, if_pos (by rw [← hvx (by omega)]; exact h)]
      · obtain rfl : r = li + 1 := by omega
        refine XAgain.go (n + 1, rows) ⟨by dsimp only; omega, ro, hv, fun q hq => ?_⟩ (by dsimp only; omega) rfl ⟨rfl, rfl, rfl, rfl, rfl, rfl, rfl, rfl, trivial⟩
        dsimp only at hq ⊢
        by_cases hqn : q = n
        · rw [hqn, hc, hstep]
        · exact hw q (by omega)
    · have hn1 : (n : Int) = b.room + 1 := by omega
      refine XAgain.go (k + 1, rows) ⟨by dsimp only; omega, ro, fun i hi q hq => ?_⟩ (by dsimp only; omega) rfl ⟨rfl, rfl, rfl, rfl, rfl, congrArg (fun z => some (AV.int .i64 z)) (by dsimp only; omega), trivial⟩
      dsimp only at hi ⊢
      by_cases hik : i = k + 1
      · rw [hik, ← hj]; exact hw q (by omega)
      · exact hv i (by omega) q hq
  · obtain rfl : k = b.months.length := by omega
    have hle := least_c b ok.f1 (by have := ok.f2; omega) ok.u1 (by have := ok.u2; omega)
    obtain ⟨a0, ha0⟩ : ∃ a0 : Nat, leastR b = a0 := ⟨(leastR b).toNat, by unfold leastR; omega⟩
    have ha1 : (a0 : Int) ≤ b.room := by rw [← ha0]; unfold leastR; have := ok.f2; have := ok.u1; omega
    have hv0 : (rows.getD 0 default).getD a0 default = valM b share b.months.length a0 := by
      have := hv b.months.length (Nat.le_refl _) a0 ha1
      rw [Nat.sub_self] at this; exact this
    unfold mostA
    rw [ha0, Int.toNat_natCast]
    rw [ha0] at hle
    repeat' first | ((with_reducible apply XBr.beq) <;> (intro h; first | (exfalso; omega) | (conv => whnf))) | ((first | (refine XCall.ret hle ?_) | (refine XHold.mk ⟨by rw [List.length_map]; exact ro.n, rfl, by omega, by omega⟩ ?_) | (refine XArr.mk (by omega) (by omega) ?_) | (refine XGet.map ro.n.symm (by omega) ?_) | (refine xdrop_ints a0 (by omega) (by rw [ro.at (by omega)]; omega) ?_)); conv => whnf) | fail
    · rw [if_pos (by rw [← hv0]; exact h)]; exact ⟨.low rfl⟩
    rw [if_neg (by rw [← hv0]; exact h)]
    refine Walk.nilgr 16 3 rfl ?_
    refine Walk.loop tab_ok [] (fun g : Nat × Nat × List Int => g.1 ≤ b.months.length ∧ (g.2.1 : Int) ≤ b.room ∧ g.2.2 ++ planM b share (b.months.length - g.1) g.2.1 = planM b share b.months.length a0 ∧ g.2.2.length ≤ g.1)
      (fun g => [(2, .pim (bedC b)), (4, .sl true []), (5, .int .i64 0), (6, .ptr 1 0), (8, .gr 2 (b.months.length + 1)), (15, natA g.2.1), (16, .gr 3 g.2.2.length), (132, .int .i64 (b.months.map moA).length), (133, natA g.1)])
      (fun g => [.map [], .cells (bedC b ++ [.mp 0]), .grow 170 false (rows.map arrA), .grow 3 g.2.2.isEmpty (ints g.2.2)]) (fun g => b.months.length - g.1) (0, a0, []) ⟨Nat.zero_le _, ha1, rfl, Nat.le_refl _⟩ rfl ⟨rfl, rfl, rfl, rfl, rfl, rfl, rfl, rfl, rfl, trivial⟩ ?_
    clear hv0 h
    rintro ⟨m, a, out⟩ ⟨hm, ham, hpl, hol⟩
    dsimp only at hm ham hpl hol ⊢
    conv => whnf
    repeat' first | ((with_reducible apply XBr.dec) <;> (intro h; first | (exfalso; omega) | ((try simp only [List.length_map] at h); first | (exfalso; omega) | (conv => whnf)))) | fail
    · have hjm := ok.mo _ (getD_mem (d := default) (show m < b.months.length by omega))
      obtain ⟨k, hkm⟩ : ∃ k, b.months.length - m = k + 1 := ⟨b.months.length - m - 1, by omega⟩
      have hmk : b.months.length - (k + 1) = m := by omega
      have hgc := gross_c b m a (b.months.getD m default).pl (b.months.getD m default).th (by omega) (by omega) (by omega) (by omega) (by omega) (by omega) (by omega) (by omega) (by omega) (by omega) (by omega)
      change Comp Tryz.prog _ _ (.int .i64 (lieR b m a)) at hgc
      have hlb := lieR_b ok (j := m) (n := a) (by omega)
      apply Walk.drawX tab_ok mixed_ok [] [] (hsK _) [_, _, _, _, _, _, _, _, _, _, _, _, _, _] (by kernel_rfl) rfl
      · skip
        repeat' first | (((with_reducible refine XIx.nat ?_ ?_ ?_); omega; (intro _; rfl)); conv => whnf) | (with_reducible apply XAnd.mk) | ((first | (with_reducible apply Chk.go) | (with_reducible apply ChkA.go)); conv => whnf) | (exact XSame.mk rfl rfl) | (with_reducible exact trivial) | ((first | (refine XCall.ret (worst_c (b.months.getD m default)) ?_) | (refine XCall.ret hgc ?_)); conv => whnf) | fail
      · skip
        repeat' first | (with_reducible apply XAnd.mk) | ((first | (with_reducible apply ChkF.go) | (with_reducible apply ChkB.go)); conv => whnf) | (with_reducible exact trivial) | fail
      conv => whnf
      repeat' first | ((with_reducible refine XInt.i64 (by omega) (by omega) ?_); conv => whnf) | fail
      obtain ⟨li, hli⟩ : ∃ li : Nat, lieR b m a = li := ⟨(lieR b m a).toNat, by omega⟩
      have hps := fun r => planM_some (b := b) (share := share) (k := k) (a := a) (lies := li) (r := r) (by rw [hmk]; exact hli)
      have hpn := planM_none (b := b) (share := share) (k := k) (a := a) (lies := li) (by rw [hmk]; exact hli)
      rw [hkm] at hpl
      rw [hli] at hlb ⊢
      refine Walk.loop tab_ok [] (fun r : Nat => r ≤ li + 1 ∧ ∀ q, q < r → rakeM (valM b share k) li (valM b share (k + 1) a) q = false)
        (fun r => [(2, .pim (bedC b)), (4, .sl true []), (5, .int .i64 0), (6, .ptr 1 0), (8, .gr 2 (b.months.length + 1)), (15, natA a), (16, .gr 3 out.length), (17, natA m), (18, natA li), (132, .int .i64 (b.months.map moA).length), (133, natA m), (150, .int .i64 ((li : Int) + 1)), (151, natA r)])
        (fun _ => [.map [], .cells (bedC b ++ [.mp 0]), .grow 170 false (rows.map arrA), .grow 3 out.isEmpty (ints out)]) (fun r => li + 1 - r) 0 ⟨Nat.zero_le _, fun q hq => by omega⟩ rfl ⟨rfl, rfl, rfl, rfl, rfl, rfl, rfl, rfl, rfl, rfl, rfl, rfl, rfl, trivial⟩ ?_
      rintro r ⟨hr, hno⟩
      have hnx := fun (h : r ≤ li) => (show (rows.getD ((m : Int) + 1).toNat default).getD (li - r) default = valM b share k (li - r) by rw [show ((m : Int) + 1).toNat = b.months.length - k by omega]; exact hv k (by omega) (li - r) (by omega))
      have hnb := valM_b ok share k (by omega) (li - r)
      have hva : (rows.getD m default).getD a default = valM b share (k + 1) a := by
        have := hv (k + 1) (by omega) a ham
        rw [hmk] at this; exact this
      have hrk : rakeM (valM b share k) li (valM b share (k + 1) a) r = (valM b share k (li - r) != -1 && ((r : Int) + valM b share k (li - r) == valM b share (k + 1) a)) := rfl
      have hvb : r ≤ li → -1 ≤ (rows.getD ((m : Int) + 1).toNat default).getD (li - r) default ∧ (rows.getD ((m : Int) + 1).toNat default).getD (li - r) default ≤ 120 * k := fun h => by rw [hnx h]; exact hnb
      conv => whnf
      repeat' first | ((first | (with_reducible apply XBr.tt) | (with_reducible apply XBr.ff)); conv => whnf) | ((with_reducible apply XBr.dec) <;> (intro h; first | (exfalso; omega) | ((try simp only [List.length_map] at h); first | (exfalso; omega) | (conv => whnf)))) | ((with_reducible apply XBr.beq) <;> (intro h; first | (exfalso; omega) | (conv => whnf))) | ((with_reducible apply XBr.bne) <;> (intro h; first | (exfalso; omega) | (conv => whnf))) | ((with_reducible refine XInt.i64 (by omega) (by omega) ?_); conv => whnf) | ((with_reducible refine XHold.mk ?_ ?_); (first | omega | rfl | decide | exact ⟨rfl, by decide, rfl⟩ | exact wideI _ | exact widePr _ | exact wideSk _ | (unfold Room; constructor <;> ((try simp) <;> omega)) | exact ⟨rfl, by simp only [List.length_map], by unfold Room; constructor <;> ((try simp) <;> omega)⟩ | exact ⟨by omega, by omega, by unfold Room; constructor <;> ((try simp) <;> omega)⟩); conv => whnf) | ((first | (refine XHold.mk ⟨by rw [List.length_map]; exact ro.n, rfl, by omega, by omega⟩ ?_) | (refine XArr.mk (by omega) (by omega) ?_) | (refine XGet.map ro.n.symm (by omega) ?_) | (refine xdrop_ints (li - r) (by omega) (by rw [ro.at (by omega)]; omega) ?_) | (refine xdrop_ints a (by omega) (by rw [ro.at (by omega)]; omega) ?_)); conv => whnf) | fail
      · rename_i h1 h2
        have h3 : (r : Int) + (rows.getD ((m : Int) + 1).toNat default).getD (li - r) default = (rows.getD m default).getD a default := h
        rw [hnx (by omega)] at h2 h3
        have hr1 : rakeM (valM b share k) li (valM b share (k + 1) a) r = true := by rw [hrk, ← hva, h3]; simp [h2]
        refine XAgain.go (m + 1, li - r, out ++ [(r : Int)]) ⟨by dsimp only; omega, by dsimp only; omega, ?_, by dsimp only; rw [List.length_append]; simp; omega⟩ (by dsimp only; omega) ?_ ⟨rfl, rfl, rfl, rfl, rfl, congrArg (fun z => some (AV.int .i64 z)) (by dsimp only; omega), ?_, rfl, rfl, trivial⟩
        · dsimp only
          rw [← hpl, hps r (by omega) hr1 hno, show b.months.length - (m + 1) = k by omega, List.append_assoc]; rfl
        · show [Blk.map [], Blk.cells (bedC b ++ [.mp 0]), Blk.grow 170 false (rows.map arrA), Blk.grow 3 (out ++ [(r : Int)]).isEmpty (List.map (AV.int .i64) (out ++ [(r : Int)]))] = _
          rw [isEmpty_app, List.map_append]
          rfl
        · show some (AV.gr 3 (out.length + 1)) = some (AV.gr 3 (out ++ [(r : Int)]).length)
          rw [List.length_append]; rfl
      · rename_i h1 h2
        have h3 : (r : Int) + (rows.getD ((m : Int) + 1).toNat default).getD (li - r) default ≠ (rows.getD m default).getD a default := h
        rw [hnx (by omega)] at h2 h3
        have hr1 : rakeM (valM b share k) li (valM b share (k + 1) a) r = false := by rw [hrk, ← hva, beq_eq_false_iff_ne.2 h3, Bool.and_false]
        refine XAgain.go (r + 1) ⟨by omega, fun q hq => ?_⟩ (by omega) rfl ⟨rfl, rfl, rfl, rfl, rfl, rfl, rfl, rfl, rfl, rfl, rfl, rfl, rfl, trivial⟩
        by_cases hqr : q = r
        · rw [hqr]; exact hr1
        · exact hno q (by omega)
      · rw [hnx (by omega)] at h
        have hr1 : rakeM (valM b share k) li (valM b share (k + 1) a) r = false := by rw [hrk, h]; rfl
        refine XAgain.go (r + 1) ⟨by omega, fun q hq => ?_⟩ (by omega) rfl ⟨rfl, rfl, rfl, rfl, rfl, rfl, rfl, rfl, rfl, rfl, rfl, rfl, rfl, trivial⟩
        by_cases hqr : q = r
        · rw [hqr]; exact hr1
        · exact hno q (by omega)
      · refine XAgain.go (m + 1, a, out) ⟨by dsimp only; omega, ham, ?_, by dsimp only; omega⟩ (by dsimp only; omega) rfl ⟨rfl, rfl, rfl, rfl, rfl, rfl, rfl, rfl, rfl, trivial⟩
        dsimp only
        rw [← hpl, hpn fun q hq => hno q (by omega), show b.months.length - (m + 1) = k by omega]
    · obtain rfl : m = b.months.length := by omega
      rw [Nat.sub_self] at hpl
      have : planM b share b.months.length a0 = out := by rw [← hpl]; exact List.append_nil out
      rw [this]
      exact ⟨Froz.tup (.cons (Froz.grow (i := 3) rfl (List.length_map _) (lowI _)) (.cons (Froz.low rfl) .nil))⟩
theorem lies_c (b : Bd) (m : Mo) (a sp st : Int) (h1 : 0 ≤ a) (h2 : a ≤ 1000) (h3 : 0 ≤ m.g) (h4 : m.g ≤ 100) (h5 : 0 ≤ b.room) (h6 : b.room ≤ 1000) (h7 : 0 ≤ sp) (h8 : sp ≤ 1000) (h9 : 0 ≤ st) (h10 : st ≤ 1000) :
    Comp Tryz.prog 93 [bedA b, moA m, .int .i64 a, chA sp st] (.int .i64 (grossR b.room m.g a sp st)) := by
  have q1 : 0 ≤ a * m.g := Int.mul_nonneg h1 h3
  have q2 : a * m.g ≤ 1000 * 100 := Int.mul_le_mul h2 h4 h3 (by omega)
  have q3 : (a * m.g).tdiv 100 = (a * m.g) / 100 := Int.tdiv_eq_ediv_of_nonneg q1
  refine Comp.body (T := tab) (res := [.tmp 8]) tab_ok [] Tryz.func93 rfl (by kernel_rfl) Tryz.ntmps93 rfl (by simp only [List.length_cons, List.length_nil]; decide) (by simp only [lowL, bedL, moL, AV.low]; rfl) ?_; conv => whnf
  repeat' first | ((with_reducible refine XInt.i64 (by omega) (by omega) ?_); conv => whnf) | ((with_reducible refine XHold.mk ?_ ?_); (first | omega | rfl | decide | exact ⟨rfl, by decide, rfl⟩ | exact wideI _ | exact widePr _ | exact wideSk _ | (unfold Room; constructor <;> ((try simp) <;> omega)) | exact ⟨rfl, by simp only [List.length_map], by unfold Room; constructor <;> ((try simp) <;> omega)⟩ | exact ⟨by omega, by omega, by unfold Room; constructor <;> ((try simp) <;> omega)⟩); conv => whnf) | fail
  all_goals exact XOut.int (by rw [q3]; rfl)
structure MdB where
  ms : List Mo
  now : Int
  re : List Int
  ch : List (Int × Int)
  u : Hp
def mdMo (u : Hp) : Mo := ⟨modV u 60, 0, modV (hpS u) 6, modV (hpS u) 6 + modV (hpS (hpS (hpS u))) 8, modV (hpS (hpS u)) 4, modV (hpS (hpS u)) 4 + modV (hpS (hpS (hpS (hpS u)))) 8⟩
def mdU (u : Hp) : Hp := hpS (hpS (hpS (hpS (hpS u))))
def mdSp (u : Hp) : Int := (mdMo u).pl + modV (mdU u) ((mdMo u).ph - (mdMo u).pl)
def mdSt (u : Hp) : Int := (mdMo u).tl + modV (hpS (mdU u)) ((mdMo u).th - (mdMo u).tl)
def mdN (room : Int) (s : MdB) : Int := grossR room (mdMo s.u).g s.now (mdSp s.u) (mdSt s.u)
def mdR (room : Int) (s : MdB) : Int := modV (hpS (hpS (mdU s.u))) (min (mdN room s) 5)
def mdBS (room : Int) (s : MdB) : MdB := ⟨s.ms ++ [{ mdMo s.u with r := mdR room s }], mdN room s - mdR room s, s.re ++ [mdN room s - mdR room s], s.ch ++ [(mdSp s.u, mdSt s.u)], hpS (hpS (hpS (mdU s.u)))⟩
structure MdOk (room : Int) (s : MdB) (k : Nat) : Prop where
  u : s.u.Ok
  n0 : 0 ≤ s.now
  n1 : s.now ≤ room
  ml : s.ms.length = k
  rl : s.re.length = k + 1
  cl : s.ch.length = k
  mo : ∀ m ∈ s.ms, 0 ≤ m.g ∧ m.g ≤ 60 ∧ 0 ≤ m.r ∧ m.r ≤ 5 ∧ m.r ≤ room ∧ 0 ≤ m.pl ∧ m.pl ≤ m.ph ∧ m.ph ≤ 14 ∧ 0 ≤ m.tl ∧ m.tl ≤ m.th ∧ m.th ≤ 12
theorem mdMo_b (u : Hp) : 0 ≤ (mdMo u).g ∧ (mdMo u).g ≤ 60 ∧ 0 ≤ (mdMo u).pl ∧ (mdMo u).pl ≤ 6 ∧ (mdMo u).pl ≤ (mdMo u).ph ∧ (mdMo u).ph ≤ 14 ∧ 0 ≤ (mdMo u).tl ∧ (mdMo u).tl ≤ 4 ∧ (mdMo u).tl ≤ (mdMo u).th ∧ (mdMo u).th ≤ 12 := by
  have h1 := modV_bound u 60
  have h2 := modV_bound (hpS u) 6
  have h3 := modV_bound (hpS (hpS u)) 4
  have h4 := modV_bound (hpS (hpS (hpS u))) 8
  have h5 := modV_bound (hpS (hpS (hpS (hpS u)))) 8
  simp only [mdMo]; omega
theorem mdC_b (u : Hp) : (mdMo u).pl ≤ mdSp u ∧ mdSp u ≤ (mdMo u).ph ∧ (mdMo u).tl ≤ mdSt u ∧ mdSt u ≤ (mdMo u).th := by
  have h0 := mdMo_b u
  have h1 := modV_bound (mdU u) ((mdMo u).ph - (mdMo u).pl)
  have h2 := modV_bound (hpS (mdU u)) ((mdMo u).th - (mdMo u).tl)
  unfold mdSp mdSt; omega
theorem mdU_ok {u : Hp} (o : u.Ok) : (mdU u).Ok := hpS_ok (hpS_ok (hpS_ok (hpS_ok (hpS_ok o))))
theorem mdN_b {room : Int} {s : MdB} {k : Nat} (o : MdOk room s k) : 0 ≤ mdN room s ∧ mdN room s ≤ room := by
  have := mdC_b s.u; have := mdMo_b s.u; have := o.n0; have := o.n1
  exact grossR_le (by omega) (by omega)
theorem mdR_b {room : Int} {s : MdB} {k : Nat} (o : MdOk room s k) : 0 ≤ mdR room s ∧ mdR room s ≤ mdN room s ∧ mdR room s ≤ 5 := by
  have h := mdN_b o
  have := modV_bound (hpS (hpS (mdU s.u))) (min (mdN room s) 5)
  unfold mdR; omega
theorem MdOk.step {room : Int} {s : MdB} {k : Nat} (o : MdOk room s k) : MdOk room (mdBS room s) (k + 1) := by
  have h1 := mdN_b o
  have h2 := mdR_b o
  have h3 := mdMo_b s.u
  have hu : (hpS (hpS (hpS (mdU s.u)))).Ok := hpS_ok (hpS_ok (hpS_ok (mdU_ok o.u)))
  unfold mdBS
  refine MdOk.mk ?_ ?_ ?_ ?_ ?_ ?_ ?_
  all_goals dsimp only
  · exact hu
  · exact Int.sub_nonneg_of_le h2.2.1
  · exact Int.le_trans (Int.sub_le_self _ h2.1) h1.2
  · rw [List.length_append, o.ml]; rfl
  · rw [List.length_append, o.rl]; rfl
  · rw [List.length_append, o.cl]; rfl
  intro m hm
  rw [List.mem_append, List.mem_singleton] at hm
  rcases hm with hm | rfl
  · exact o.mo m hm
  · obtain ⟨a1, a2, a3, a4, a5, a6, a7, a8, a9, a10⟩ := h3
    exact ⟨a1, a2, h2.1, h2.2.2, Int.le_trans h2.2.1 h1.2, a3, a5, a6, a7, a9, a10⟩
def mdBK (room : Int) (s : MdB) : Nat → MdB
  | 0 => s
  | k + 1 => mdBS room (mdBK room s k)
theorem mdBK_succ (room : Int) (s : MdB) (k : Nat) : mdBK room s (k + 1) = mdBS room (mdBK room s k) := by rw [mdBK]
theorem mdBK_ok {room : Int} {s : MdB} (o : MdOk room s 0) : ∀ k, MdOk room (mdBK room s k) k
  | 0 => o
  | k + 1 => (mdBK_ok o k).step
def mdRoom (u : Hp) (room : Int) : Int := 2 + modV u (room - 2)
def mdUns (u : Hp) : Int := modV (hpS u) 4
def mdFst (u : Hp) (room : Int) : Int := modV (hpS (hpS u)) (mdRoom u room)
def mdNow (u : Hp) (room : Int) : Int := min (mdRoom u room) (max 0 (mdFst u room + ((0 - mdUns u) + modV (hpS (hpS (hpS u))) (mdUns u - (0 - mdUns u)))))
def mdH (u : Hp) : Hp := hpS (hpS (hpS (hpS u)))
def mdMany (u : Hp) (months : Int) : Int := 1 + modV (mdH u) (months - 1)
def mdS0 (u : Hp) (room : Int) : MdB := ⟨[], mdNow u room, [mdNow u room], [], hpS (mdH u)⟩
theorem mdS0_ok {u : Hp} (o : u.Ok) {room : Int} (h : 2 ≤ room) : MdOk (mdRoom u room) (mdS0 u room) 0 := by
  have h1 := modV_bound u (room - 2)
  refine ⟨hpS_ok (hpS_ok (hpS_ok (hpS_ok (hpS_ok o)))), ?_, ?_, rfl, rfl, rfl, by simp [mdS0]⟩
  · simp only [mdS0, mdNow, mdRoom]; omega
  · simp only [mdS0, mdNow]; omega
def mdE (u : Hp) (room months : Int) : MdB := mdBK (mdRoom u room) (mdS0 u room) (mdMany u months).toNat
def madeB (u : Hp) (room months : Int) : Bd := ⟨mdRoom u room, mdFst u room, mdUns u, (mdE u room months).ms.isEmpty, (mdE u room months).ms, true, []⟩
theorem madeB_ok {u : Hp} (o : u.Ok) {room months : Int} (h1 : 2 ≤ room) (h2 : room ≤ 100) (h3 : 1 ≤ months) (h4 : months ≤ 10) : BedOk (madeB u room months) := by
  have e := mdBK_ok (mdS0_ok o h1) (mdMany u months).toNat
  have g1 := modV_bound u (room - 2)
  have g2 := modV_bound (hpS u) 4
  have g3 := modV_bound (hpS (hpS u)) (mdRoom u room)
  have g4 := modV_bound (mdH u) (months - 1)
  have hl := e.ml
  refine ⟨?_, ?_, ?_, ?_, ?_, ?_, ?_, ?_, fun m hm => ?_⟩
  · simp only [madeB, mdRoom]; omega
  · simp only [madeB, mdRoom]; omega
  · simp only [madeB, mdE]; rw [hl]; simp only [mdMany]; omega
  · simp only [madeB, mdE]; rw [hl]; simp only [mdMany]; omega
  · simp only [madeB, mdFst]; omega
  · simp only [madeB, mdFst, mdRoom] at g3 ⊢; omega
  · simp only [madeB, mdUns]; omega
  · simp only [madeB, mdUns]; omega
  · have := e.mo m hm
    simp only [madeB]; omega
theorem bedMade_end {H : List Blk} {r' : AV} (b : Bd) (re : List Int) (ch : List (Int × Int)) (nl : Bool) (x : Hp) {i1 i2 i3 : Nat} {n : Nat} (hn : n = 1) (h1 : 1 ≤ i1) (h2 : 1 ≤ i2) (h3 : 1 ≤ i3) (hH : lget H 0 = some (hpC x)) (g1 : lget H i1 = some (.grow 159 b.nlm (b.months.map moA))) (g2 : lget H i2 = some (.grow 3 nl (ints re))) (g3 : lget H i3 = some (.grow 161 ch.isEmpty (ch.map prA)))
    (hs : b.surveys = []) (hs2 : b.nls = true) (hr : r' = .tup [.agg [.int .i64 b.room, .int .i64 b.first, .int .i64 b.unsure, .gr i1 b.months.length, .sl true []], .gr i2 re.length, .gr i3 ch.length]) : FrozN Tryz.prog n H r' (.tup [bedA b, .sl nl (ints re), .sl ch.isEmpty (ch.map prA)]) := by
  subst hn hr
  have e : bedA b = .agg [.int .i64 b.room, .int .i64 b.first, .int .i64 b.unsure, .sl b.nlm (b.months.map moA), .sl true []] := by unfold bedA bedC; rw [hs, hs2]; rfl
  rw [e]
  refine FrozN.tup (.cons (FrozN.agg ?_ (.cons (.low rfl) (.cons (.low rfl) (.cons (.low rfl) (.cons (.grow h1 g1 (List.length_map _) (lowMo _)) (.cons (.low rfl) .nil)))))) (.cons (.grow h2 g2 (List.length_map _) (lowI _)) (.cons (.grow h3 g3 (List.length_map _) (lowPr _)) .nil)))
  · intro y hy
    simp only [List.mem_cons, List.not_mem_nil, or_false] at hy
    rcases hy with rfl | rfl | rfl | rfl | rfl <;> rfl
theorem XCall.heap {P : Program} {f : FuncId} {rs : List AV} {k : AV → List Blk → Prop} {H : List Blk} (H' : List Blk) (h : H' = H) (x : XCall P f rs H' k) : XCall P f rs H k := h ▸ x
theorem Walk.heap {P : Program} {N : Nat} {r : Option Nat} {c : Code} {Q : Post} {D : List Nat} {σ : St} {H : List Blk} (H' : List Blk) (h : H' = H) (x : Walk P N r c Q D σ H') : Walk P N r c Q D σ H := h ▸ x
set_option maxHeartbeats 4000000 in
theorem bedMade_c (u : Hp) (room months : Int) (o : u.Ok) (h1 : 2 ≤ room) (h2 : room ≤ 100) (h3 : 1 ≤ months) (h4 : months ≤ 10) :
    HpOk 16 [.int .i64 room, .int .i64 months] u (.tup [bedA (madeB u room months), .sl false (ints (mdE u room months).re), .sl (mdE u room months).ch.isEmpty ((mdE u room months).ch.map prA)]) (mdE u room months).u := by
  have g1 := modV_bound u (room - 2)
  have g2 := modV_bound (hpS u) 4
  have g4 := modV_bound (mdH u) (months - 1)
  have ok := mdBK_ok (mdS0_ok o h1)
  have hR : mdRoom u room = 2 + modV u (room - 2) := rfl
  refine ⟨rfl, ?_⟩
  refine ACall.bodyN (T := tab) (res := [.cell 6 62, .tmp 7, .tmp 8]) tab_ok [41] Tryz.func16 rfl (by kernel_rfl) Tryz.ntmps16 rfl (by simp only [List.length_cons, List.length_nil]; decide) ⟨rfl, rfl⟩ ?_; conv => whnf
  repeat' first | ((first | (refine XCall.hp (j := 0) (from_c u 2 room o (by omega) (by omega) (by omega) (by omega)) rfl rfl ?_) | (refine XCall.hp (j := 0) (upto_c (hpS u) 4 (hpS_ok o) (by omega) (by omega)) rfl rfl ?_) | (refine XCall.hp (j := 0) (upto_c (hpS (hpS u)) _ (hpS_ok (hpS_ok o)) (by omega) (by omega)) rfl rfl ?_)); conv => whnf) | fail
  have g3 := modV_bound (hpS (hpS u)) (mdRoom u room)
  have g5 := modV_bound (hpS (hpS (hpS u))) (mdUns u - (0 - mdUns u))
  have hU : mdUns u = modV (hpS u) 4 := rfl
  have hF : mdFst u room = modV (hpS (hpS u)) (mdRoom u room) := rfl
  have hfr := from_c (hpS (hpS (hpS u))) ((0 - mdUns u)) (mdUns u) (hpS_ok (hpS_ok (hpS_ok o))) (by omega) (by omega) (by omega) (by omega)
  refine Walk.know [(0, .ptr 0 0), (2, .int .i64 months), (6, .ptr 1 0), (7, .sl true []), (8, .sl true []), (9, .ptr 2 0)] ⟨rfl, rfl, rfl, rfl, rfl, rfl, trivial⟩ ?_
  refine Walk.heap [hpC (hpS (hpS (hpS u))), .cells [.int .i64 0, .int .i64 0, .int .i64 0, .sl true [], .sl true []], .cells [.int .i64 (mdRoom u room), .int .i64 (mdFst u room), .int .i64 (mdUns u), .sl true [], .sl true []]] rfl ?_
  rw [← hU] at g2
  rw [← hF] at g3
  apply Walk.drawX tab_ok mixed_ok [] [10] (hsV _ [id, fun H => H.set 0 (hpC (mdH u))]) [_, _, _, _, _, _, _, _, _, _, _, _, _, _, _] (by kernel_rfl) rfl
  · skip
    repeat' first | ((with_reducible refine XInt.i64 (by omega) (by omega) ?_); conv => whnf) | (with_reducible apply XAnd.mk) | ((first | (with_reducible apply Chk.go) | (with_reducible apply ChkA.go)); conv => whnf) | (exact XSame.mk rfl rfl) | (with_reducible exact trivial) | ((refine XCall.hp (j := 0) hfr rfl rfl ?_); conv => whnf) | fail
  · skip
    repeat' first | (with_reducible apply XAnd.mk) | ((first | (with_reducible apply Chk.go) | (with_reducible apply ChkF.go) | (with_reducible apply ChkB.go)); conv => whnf) | (exact XSame.mk rfl rfl) | (with_reducible exact trivial) | fail
  conv => whnf
  have hm1 : mdMany u months = 1 + modV (mdH u) (months - 1) := rfl
  have hMo : (mdH u).Ok := hpS_ok (hpS_ok (hpS_ok (hpS_ok o)))
  repeat' first | ((with_reducible refine XHold.mk ?_ ?_); (first | omega | rfl | decide | exact ⟨rfl, by decide, rfl⟩ | exact wideI _ | exact widePr _ | exact wideSk _ | (unfold Room; constructor <;> ((try simp) <;> omega)) | exact ⟨rfl, by simp only [List.length_map], by unfold Room; constructor <;> ((try simp) <;> omega)⟩ | exact ⟨by omega, by omega, by unfold Room; constructor <;> ((try simp) <;> omega)⟩); conv => whnf) | ((refine XCall.hp (j := 0) (from_c (mdH u) 1 months hMo (by omega) (by omega) (by omega) (by omega)) rfl rfl ?_); conv => whnf) | fail
  refine Walk.nilcell 2 3 159 rfl rfl ?_
  refine Walk.nilgr 12 161 rfl ?_
  refine Walk.loopG tab_ok [] (fun k : Nat => (k : Int) ≤ mdMany u months) (fun k => [(0, .ptr 0 0), (6, .ptr 1 0), (7, .sl true []), (8, .sl true []), (9, .ptr 2 0), (44, .int .i64 (mdMany u months)), (10, .int .i64 (mdBK (mdRoom u room) (mdS0 u room) k).now), (11, .gr 3 (mdBK (mdRoom u room) (mdS0 u room) k).re.length), (12, .gr 5 (mdBK (mdRoom u room) (mdS0 u room) k).ch.length), (45, natA k)])
    (fun k => [hpC (mdBK (mdRoom u room) (mdS0 u room) k).u, .cells [.int .i64 0, .int .i64 0, .int .i64 0, .sl true [], .sl true []], .cells [.int .i64 (mdRoom u room), .int .i64 (mdFst u room), .int .i64 (mdUns u), .gr 4 (mdBK (mdRoom u room) (mdS0 u room) k).ms.length, .sl true []],
      .grow 3 false (ints (mdBK (mdRoom u room) (mdS0 u room) k).re), .grow 159 (mdBK (mdRoom u room) (mdS0 u room) k).ms.isEmpty ((mdBK (mdRoom u room) (mdS0 u room) k).ms.map moA), .grow 161 (mdBK (mdRoom u room) (mdS0 u room) k).ch.isEmpty ((mdBK (mdRoom u room) (mdS0 u room) k).ch.map prA)])
    (fun k => (mdMany u months).toNat - k) 0 (show ((0 : Nat) : Int) ≤ mdMany u months by omega) rfl ⟨rfl, rfl, rfl, rfl, rfl, rfl, rfl, rfl, rfl, rfl, trivial⟩ ?_ ?_ ?_
  · intro k _
    refine ⟨fun x hx => ?_, fun p hp => ?_⟩
    · simp only [List.mem_cons, List.not_mem_nil, or_false] at hx
      rcases hx with rfl | rfl | rfl | rfl | rfl | rfl
      · exact hpC_low _
      · rfl
      · rfl
      · exact lowI _
      · exact lowMo _
      · exact lowPr _
    · simp only [List.mem_cons, List.not_mem_nil, or_false] at hp
      rcases hp with rfl | rfl | rfl | rfl | rfl | rfl | rfl | rfl | rfl | rfl <;> rfl
  · intro k _; exact (show (6 : Nat) ≤ 6 from Nat.le_refl 6)
  intro k hk
  have hs := ok k
  have hnx : mdBK (mdRoom u room) (mdS0 u room) (k + 1) = mdBS (mdRoom u room) (mdBK (mdRoom u room) (mdS0 u room) k) := mdBK_succ _ _ _
  have hfin : (k : Int) = mdMany u months → mdE u room months = mdBK (mdRoom u room) (mdS0 u room) k := fun h => by unfold mdE; rw [← h, Int.toNat_natCast]
  generalize mdBK (mdRoom u room) (mdS0 u room) k = s at hs hnx hfin
  have ht := mdN_b hs
  have ht2 := mdR_b hs
  obtain ⟨ms, now, re, ch, v⟩ := s
  have vo := hs.u
  have n0 := hs.n0
  have n1 := hs.n1
  have l1 := hs.ml
  have l2 := hs.rl
  have l3 := hs.cl
  clear hs ok
  dsimp only at vo n0 n1 l1 l2 l3
  simp only [mdBS, mdMo, mdSp, mdSt, mdN, mdR, mdU] at hnx ht ht2
  generalize hRR : mdRoom u room = R at *
  have o1 := hpS_ok vo
  have o2 := hpS_ok o1
  have o3 := hpS_ok o2
  have o4 := hpS_ok o3
  have o5 := hpS_ok o4
  have o6 := hpS_ok o5
  have o7 := hpS_ok o6
  have b1 := modV_bound v 60
  have b2 := modV_bound (hpS v) 6
  have b3 := modV_bound (hpS (hpS v)) 4
  have b4 := modV_bound (hpS (hpS (hpS v))) 8
  have b5 := modV_bound (hpS (hpS (hpS (hpS v)))) 8
  have c1 := upto_c v 60 vo (by omega) (by omega)
  have c2 := upto_c (hpS v) 6 o1 (by omega) (by omega)
  have c3 := upto_c (hpS (hpS v)) 4 o2 (by omega) (by omega)
  have c4 := upto_c (hpS (hpS (hpS v))) 8 o3 (by omega) (by omega)
  have c5 := upto_c (hpS (hpS (hpS (hpS v)))) 8 o4 (by omega) (by omega)
  generalize modV v 60 = g at *
  generalize modV (hpS v) 6 = pl at *
  generalize modV (hpS (hpS v)) 4 = tl at *
  generalize modV (hpS (hpS (hpS v))) 8 = d1 at *
  generalize modV (hpS (hpS (hpS (hpS v)))) 8 = d2 at *
  have b6 := modV_bound (hpS (hpS (hpS (hpS (hpS v))))) (pl + d1 - pl)
  have b7 := modV_bound (hpS (hpS (hpS (hpS (hpS (hpS v)))))) (tl + d2 - tl)
  have c6 := from_c (hpS (hpS (hpS (hpS (hpS v))))) pl (pl + d1) o5 (by omega) (by omega) (by omega) (by omega)
  have c7 := from_c (hpS (hpS (hpS (hpS (hpS (hpS v)))))) tl (tl + d2) o6 (by omega) (by omega) (by omega) (by omega)
  generalize modV (hpS (hpS (hpS (hpS (hpS v))))) (pl + d1 - pl) = e1 at *
  generalize modV (hpS (hpS (hpS (hpS (hpS (hpS v)))))) (tl + d2 - tl) = e2 at *
  have c9 := lies_c ⟨R, mdFst u room, mdUns u, ms.isEmpty, ms, true, []⟩ ⟨g, 0, pl, pl + d1, tl, tl + d2⟩ now (pl + e1) (tl + e2) n0 (by omega) (by dsimp only; omega) (by dsimp only; omega) (by dsimp only; omega) (by dsimp only; omega) (by omega) (by omega) (by omega) (by omega)
  dsimp only at c9
  generalize grossR R g now (pl + e1) (tl + e2) = nn at *
  have c8 := upto_c (hpS (hpS (hpS (hpS (hpS (hpS (hpS v))))))) (min nn 5) o7 (by omega) (by omega)
  generalize modV (hpS (hpS (hpS (hpS (hpS (hpS (hpS v))))))) (min nn 5) = rk at *
  generalize hpS (hpS (hpS (hpS (hpS (hpS (hpS (hpS v))))))) = v8 at *
  generalize hpS (hpS (hpS (hpS (hpS (hpS (hpS v)))))) = v7 at *
  generalize hpS (hpS (hpS (hpS (hpS (hpS v))))) = v6 at *
  generalize hpS (hpS (hpS (hpS (hpS v)))) = v5 at *
  generalize hpS (hpS (hpS (hpS v))) = v4 at *
  generalize hpS (hpS (hpS v)) = v3 at *
  generalize hpS (hpS v) = v2 at *
  generalize hpS v = v1 at *
  conv => whnf
  repeat' first | ((with_reducible apply XBr.dec) <;> (intro h; first | (exfalso; omega) | ((try simp only [List.length_map] at h); first | (exfalso; omega) | (conv => whnf)))) | ((first | (refine XCall.hp (j := 0) c1 rfl rfl ?_) | (refine XCall.hp (j := 0) c2 rfl rfl ?_) | (refine XCall.hp (j := 0) c3 rfl rfl ?_)); conv => whnf) | fail
  · apply Walk.drawX tab_ok mixed_ok [] [4, 10, 14, 17] (hsV _ [id, fun H => H.set 0 (hpC v4), fun H => H.set 0 (hpC v5), fun H => (H.set 0 (hpC v5)).set 6 (.cells [.int .i64 g, .int .i64 0, .int .i64 pl, .int .i64 (pl + d1), .int .i64 tl, .int .i64 0]), fun H => (H.set 0 (hpC v5)).set 6 (.cells [.int .i64 g, .int .i64 0, .int .i64 pl, .int .i64 (pl + d1), .int .i64 tl, .int .i64 (tl + d2)])]) [_, _, _, _, _, _, _, _, _, _, _, _, _, _, _, _, _, _] (by kernel_rfl) rfl
    · skip
      repeat' first | ((with_reducible refine XInt.i64 (by omega) (by omega) ?_); conv => whnf) | (with_reducible apply XAnd.mk) | ((first | (with_reducible apply Chk.go) | (with_reducible apply ChkA.go)); conv => whnf) | (exact XSame.mk rfl rfl) | (with_reducible exact trivial) | ((first | (refine XCall.hp (j := 0) c4 rfl rfl ?_) | (refine XCall.hp (j := 0) c5 rfl rfl ?_)); conv => whnf) | fail
    · skip
      repeat' first | ((with_reducible refine XInt.i64 (by omega) (by omega) ?_); conv => whnf) | (with_reducible apply XAnd.mk) | ((first | (with_reducible apply Chk.go) | (with_reducible apply ChkF.go) | (with_reducible apply ChkB.go)); conv => whnf) | (exact XSame.mk rfl rfl) | (with_reducible exact trivial) | fail
    conv => whnf
    apply Walk.drawX tab_ok mixed_ok [] [7, 15, 17, 18] (fun fl => match fl with
      | [a, b, x, y] => [hpC (bif b then v7 else bif a then v6 else v5), .cells [.int .i64 0, .int .i64 0, .int .i64 0, .sl true [], .sl true []], .cells [.int .i64 R, .int .i64 (mdFst u room), .int .i64 (mdUns u), .gr 4 ms.length, .sl true []],
        .grow 3 false (ints re), .grow 159 ms.isEmpty (ms.map moA), .grow 161 ch.isEmpty (ch.map prA), .cells [.int .i64 g, .int .i64 0, .int .i64 pl, .int .i64 (pl + d1), .int .i64 tl, .int .i64 (tl + d2)]] ++ (bif x then [.cells (bif y then [.int .i64 (pl + e1), .int .i64 (tl + e2)] else [.int .i64 0, .int .i64 0])] else [])
      | _ => []) [_, _, _, _, _, _, _, _, _, _, _, _, _, _, _, _, _, _, _] (by kernel_rfl) rfl
    · skip
      repeat' first | (with_reducible apply XAnd.mk) | ((first | (with_reducible apply Chk.go) | (with_reducible apply ChkA.go)); conv => whnf) | (exact XSame.mk rfl rfl) | (with_reducible exact trivial) | ((first | (refine XCall.hp (j := 0) c6 rfl rfl ?_) | (refine XCall.hp (j := 0) c7 rfl rfl ?_)); conv => whnf) | fail
    · skip
      repeat' first | (with_reducible apply XAnd.mk) | ((first | (with_reducible apply Chk.go) | (with_reducible apply ChkF.go) | (with_reducible apply ChkB.go)); conv => whnf) | (exact XSame.mk rfl rfl) | (with_reducible exact trivial) | ((first | (refine XCall.hp (j := 0) c6 rfl rfl ?_) | (refine XCall.hp (j := 0) c7 rfl rfl ?_)); conv => whnf) | fail
    conv => whnf
    refine XCall.heap [hpC v7, .cells [.int .i64 0, .int .i64 0, .int .i64 0, .sl true [], .sl true []], .cells [.int .i64 R, .int .i64 (mdFst u room), .int .i64 (mdUns u), .gr 4 ms.length, .sl true []],
        .grow 3 false (ints re), .grow 159 ms.isEmpty (ms.map moA), .grow 161 ch.isEmpty (ch.map prA), .cells [.int .i64 g, .int .i64 0, .int .i64 pl, .int .i64 (pl + d1), .int .i64 tl, .int .i64 (tl + d2)], .cells [.int .i64 (pl + e1), .int .i64 (tl + e2)]] rfl ?_
    refine XCall.lend c9 (.cons (Froz.agg (fun x hx => by simp only [bedC, List.mem_cons, List.not_mem_nil, or_false] at hx; rcases hx with rfl | rfl | rfl | rfl | rfl <;> rfl) (.cons (Froz.low rfl) (.cons (Froz.low rfl) (.cons (Froz.low rfl) (.cons (Froz.grow (i := 4) rfl (List.length_map _) (lowMo _)) (.cons (Froz.low rfl) .nil)))))) (.cons (Froz.low rfl) (.cons (Froz.low rfl) (.cons (Froz.low rfl) .nil)))) rfl ?_
    conv => whnf
    repeat' first | ((first | (with_reducible refine XInt.i64 (by omega) (by omega) ?_) | (refine XCall.hp (j := 0) c8 rfl rfl ?_)); conv => whnf) | fail
    apply Walk.drawX tab_ok mixed_ok [] [4, 8, 12, 14] (hsV _ [id, fun H => H.set 4 (.grow 159 (ms.isEmpty && false) (ms.map moA ++ [moA ⟨g, rk, pl, pl + d1, tl, tl + d2⟩])),
      fun H => (H.set 4 (.grow 159 (ms.isEmpty && false) (ms.map moA ++ [moA ⟨g, rk, pl, pl + d1, tl, tl + d2⟩]))).set 3 (.grow 3 false (ints re ++ [.int .i64 (nn - rk)])),
      fun H => ((H.set 4 (.grow 159 (ms.isEmpty && false) (ms.map moA ++ [moA ⟨g, rk, pl, pl + d1, tl, tl + d2⟩]))).set 3 (.grow 3 false (ints re ++ [.int .i64 (nn - rk)]))).set 5 (.grow 161 (ch.isEmpty && false) (ch.map prA ++ [prA (pl + e1, tl + e2)])),
      fun H => (((H.set 4 (.grow 159 (ms.isEmpty && false) (ms.map moA ++ [moA ⟨g, rk, pl, pl + d1, tl, tl + d2⟩]))).set 3 (.grow 3 false (ints re ++ [.int .i64 (nn - rk)]))).set 5 (.grow 161 (ch.isEmpty && false) (ch.map prA ++ [prA (pl + e1, tl + e2)]))).set 2 (.cells [.int .i64 R, .int .i64 (mdFst u room), .int .i64 (mdUns u), .gr 4 (ms.length + 1), .sl true []])]) [_, _, _, _, _, _, _, _, _, _, _, _, _, _, _, _, _] (by kernel_rfl) rfl
    · skip
      repeat' first | ((with_reducible refine XHold.mk ?_ ?_); (first | omega | rfl | decide | exact ⟨rfl, by decide, rfl⟩ | exact wideI _ | exact widePr _ | exact wideSk _ | (unfold Room; constructor <;> ((try simp) <;> omega)) | exact ⟨rfl, by simp only [List.length_map], by unfold Room; constructor <;> ((try simp) <;> omega)⟩ | exact ⟨by omega, by omega, by unfold Room; constructor <;> ((try simp) <;> omega)⟩); conv => whnf) | (with_reducible apply XAnd.mk) | ((first | (with_reducible apply Chk.go) | (with_reducible apply ChkA.go)); conv => whnf) | (exact XSame.mk rfl rfl) | (with_reducible exact trivial) | fail
    · skip
      repeat' first | ((with_reducible refine XHold.mk ?_ ?_); (first | omega | rfl | decide | exact ⟨rfl, by decide, rfl⟩ | exact wideI _ | exact widePr _ | exact wideSk _ | (unfold Room; constructor <;> ((try simp) <;> omega)) | exact ⟨rfl, by simp only [List.length_map], by unfold Room; constructor <;> ((try simp) <;> omega)⟩ | exact ⟨by omega, by omega, by unfold Room; constructor <;> ((try simp) <;> omega)⟩); conv => whnf) | (with_reducible apply XAnd.mk) | ((first | (with_reducible apply Chk.go) | (with_reducible apply ChkF.go) | (with_reducible apply ChkB.go)); conv => whnf) | (exact XSame.mk rfl rfl) | (with_reducible exact trivial) | fail
    conv => whnf
    repeat' first | ((with_reducible refine XInt.i64 (by omega) (by omega) ?_); conv => whnf) | fail
    refine XAgainG.go (k + 1) [.cells [.int .i64 g, .int .i64 rk, .int .i64 pl, .int .i64 (pl + d1), .int .i64 tl, .int .i64 (tl + d2)], .cells [.int .i64 (pl + e1), .int .i64 (tl + e2)]] (show ((k + 1 : Nat) : Int) ≤ mdMany u months by omega) (show (mdMany u months).toNat - (k + 1) < (mdMany u months).toNat - k by omega) ?_ ⟨rfl, rfl, rfl, rfl, rfl, rfl, ?_, ?_, ?_, rfl, trivial⟩
    · rw [hnx]
      show [hpC v8, .cells [.int .i64 0, .int .i64 0, .int .i64 0, .sl true [], .sl true []], .cells [.int .i64 R, .int .i64 (mdFst u room), .int .i64 (mdUns u), .gr 4 (ms ++ [(⟨g, rk, pl, pl + d1, tl, tl + d2⟩ : Mo)]).length, .sl true []], .grow 3 false (List.map (AV.int .i64) (re ++ [nn - rk])), .grow 159 (ms ++ [(⟨g, rk, pl, pl + d1, tl, tl + d2⟩ : Mo)]).isEmpty (List.map moA (ms ++ [⟨g, rk, pl, pl + d1, tl, tl + d2⟩])), .grow 161 (ch ++ [(pl + e1, tl + e2)]).isEmpty (List.map prA (ch ++ [(pl + e1, tl + e2)]))] ++ _ = _
      rw [List.map_append, List.map_append, List.map_append, isEmpty_app, isEmpty_app, List.length_append]
      rfl
    · show some (AV.int .i64 (nn - rk)) = some (AV.int .i64 (mdBK R (mdS0 u room) (k + 1)).now)
      rw [hnx]
    · show some (AV.gr 3 (re.length + 1)) = some (AV.gr 3 (mdBK R (mdS0 u room) (k + 1)).re.length)
      rw [hnx]; dsimp only; rw [List.length_append]; rfl
    · show some (AV.gr 5 (ch.length + 1)) = some (AV.gr 5 (mdBK R (mdS0 u room) (k + 1)).ch.length)
      rw [hnx]; dsimp only; rw [List.length_append]; rfl
  · have hf := hfin (by omega)
    have hB : madeB u room months = ⟨R, mdFst u room, mdUns u, ms.isEmpty, ms, true, []⟩ := by unfold madeB; rw [hf, hRR]
    rw [hB, hf]
    exact ⟨rfl, rfl, fun y hy => by simp only [List.mem_cons, List.not_mem_nil, or_false] at hy; subst hy; exact hpC_low _,
      bedMade_end (i1 := 4) (i2 := 3) (i3 := 5) ⟨R, mdFst u room, mdUns u, ms.isEmpty, ms, true, []⟩ re ch false v rfl (by decide) (by decide) (by decide) rfl rfl rfl rfl rfl rfl rfl⟩
end GA
end

section
namespace GA
open Go Go.RowKit Go.ChangeShapes Go.WideShapes Go.ChangeAt Go.Proofs Go.Proofs.YtinbgkoefajhbaaGreat
set_option linter.unusedVariables false
set_option linter.unusedSimpArgs false

section
variable {P : Program} {w : World} {r : Reach} {base : Nat} {t : TypeId} {v : Value}
theorem okWide_len {e : TypeId} (ht : P.underlying t = some (.slice e)) (h : Value.okWide P w r base t v) : ∃ a len cap, v = .slice a len cap ∧ len < 9223372036854775808 := by
  simp only [Value.okWide, ht, Cell.okWide] at h
  cases v with
  | slice a len cap =>
    refine ⟨a, len, cap, rfl, ?_⟩
    cases a with
    | none =>
      cases len with
      | zero => omega
      | succ n => simp [Cell.ok, ht] at h
    | some a =>
      simp only [Cell.ok, ht] at h
      have h1 : IntKind.i64.max = 9223372036854775807 := by decide
      omega
  | _ => simp_all [Cell.ok]
theorem okWide_has {k : IntKind} (ht : P.underlying t = some (.int k)) (h : Value.okWide P w r base t v) : ∃ n, v = .int k n ∧ k.min ≤ n ∧ n ≤ k.max := by
  obtain ⟨n, rfl⟩ := okWide_int ht h
  refine ⟨n, rfl, ?_⟩
  simp only [Value.okWide, ht, Cell.okWide] at h
  simp only [Cell.ok, ht, IntKind.has] at h
  exact h.2
end
theorem rep_len {P : Program} {h : Nat → Option Obj} {β : Nat → Value} {H : List Blk} {nl : Bool} {els : List AV} {a : Option Addr} {len cap : Nat} (x : Rep P h β H (.sl nl els) (.slice a len cap)) : els.length = len := by
  cases x with
  | slnil => rfl
  | slemp => rfl
  | sl us h1 => exact h1.symm
theorem ownK : ownKnob Tryz.prog.godebug = none := by kernel_rfl
theorem oByte : Opens Tryz.prog 5 1 (fun a : {n : Int // IntKind.u8.min ≤ n ∧ n ≤ IntKind.u8.max} => [AV.int .u8 a.1]) := .int (by kernel_rfl) (by kernel_rfl)
theorem oBytes : Opens Tryz.prog 58 1 (fun p : Bool × List Int => [AV.sl p.1 (bytes p.2)]) :=
  (Opens.slice (t := 58) (by kernel_rfl) (by kernel_rfl) oByte (by decide) (fun a => .int .u8 a.1) (fun _ => rfl)).as (fun p => ⟨(p.1.1, p.1.2.map (·.1)), by simp [bytes]⟩) (fun _ => rfl)
end GA
end

section
namespace GA
open Go Go.RowKit
set_option linter.unusedVariables false

structure XNext (A : Prop) : Prop where
  o : A
def hsU (H : List Blk) : List Bool → List Blk := fun _ => H

section
variable {P : Program} {T : Tab} {N : Nat} {ρ : Option Nat} {D : List Nat} {σ : St} {H : List Blk} {Q : Post}

theorem SubX.app : ∀ {K L : List (Nat × AV)} {σ : St}, SubX K σ → SubX L σ → SubX (K ++ L) σ
  | [], _, _, _, h => h
  | (_, _) :: _, _, _, h, h2 => ⟨h.1, SubX.app h.2 h2⟩

theorem Walk.drawN {ops : List Oper} {id : Nat} (ok : TabOk P T) (hm : P.follows .mixedOrders = true) (own eff : List Nat) (HS : List Bool → List Blk) (R : List AV) (hs : Region.lexB .any ops.toArray = true) (hH : HS (eff.map fun _ => false) = H)
    (hA : ChkA P T N own ops eff HS 0 ops R σ) (hB : ChkB P T N own ops eff HS R σ (allF eff.length)) (hk : XNext (Q .normal D (xFold N ops R σ) (HS (eff.map fun j => Nat.blt j ops.length)))) : Walk P N ρ (.region id ops.toArray true) Q D σ H :=
  Walk.drawX ok hm own eff HS R hs hH hA hB hk.o

theorem Walk.loopK {c : Code} {G : Type} (ok : TabOk P T) (own : List Nat) (K : List (Nat × AV)) (hK : SubX K σ) (I : G → Prop) (L : G → List (Nat × AV)) (hp : G → List Blk) (μ : G → Nat) (g0 : G) (h0 : I g0) (hH : hp g0 = H) (hs : SubX (L g0) σ)
    (round : ∀ g, I g → XRun P T N ρ own c (thenQ (XAgain I (fun g => K ++ L g) hp μ g D) Q) D (stX (K ++ L g)) (hp g)) : Walk P N ρ (.loop c) Q D σ H :=
  Walk.loop ok own I (fun g => K ++ L g) hp μ g0 h0 hH (hK.app hs) round

theorem Walk.loopGK {c : Code} {G : Type} (ok : TabOk P T) (own : List Nat) (K : List (Nat × AV)) (hK : SubX K σ) (I : G → Prop) (L : G → List (Nat × AV)) (hp : G → List Blk) (μ : G → Nat) (g0 : G) (h0 : I g0) (hH : hp g0 = H) (hs : SubX (L g0) σ)
    (hlow : ∀ g, I g → (∀ x ∈ hp g, x.low (hp g).length = true) ∧ ∀ p ∈ K ++ L g, p.2.low (hp g).length = true) (hlen : ∀ g, I g → (hp g0).length ≤ (hp g).length)
    (round : ∀ g, I g → XRun P T N ρ own c (thenQ (XAgainG I (fun g => K ++ L g) hp μ g) Q) [] (stX (K ++ L g)) (hp g)) : Walk P N ρ (.loop c) Q [] σ H :=
  Walk.loopG ok own I (fun g => K ++ L g) hp μ g0 h0 hH (hK.app hs) hlow hlen round

theorem XAgainM.move {G : Type} {I : G → Prop} {L : G → List (Nat × AV)} {hp : G → List Blk} {μ : G → Nat} {base : Nat} {g : G} (g' : G) (A : List Blk) (x y : Blk) (u : Nat) (L0 : List (Nat × AV)) (h1 : I g') (h2 : μ g' < μ g) (h3 : hp g' = A ++ [y]) (h4 : H = A ++ [x, y])
    (h5 : L g' = (u, .ptr A.length 0) :: L0) (h6 : SubX L0 σ) (h7 : σ u = some (.ptr (A.length + 1) 0)) (hb : base ≤ A.length) (lA : ∀ z ∈ A, z.low A.length = true) (ly : y.low A.length = true) (lL : ∀ p ∈ L0, p.2.low A.length = true) : XAgainM I L hp μ base g [] σ H := by
  have hf : ∀ i, i < A.length → (fun i => if i = A.length then A.length + 1 else i) i = i := fun i hi => by simp only; rw [if_neg (by omega)]
  refine ⟨g', fun i => if i = A.length then A.length + 1 else i, h1, h2, ⟨List.nodup_nil, fun i hi => by simp at hi, fun i _ hi => by simp at hi⟩, ?_⟩
  rw [h3, h4]
  refine ⟨fun i j hi hj e => ?_, fun i hi => hf i (by omega), by simp; omega, fun i x1 e => ?_, fun i x1 hi e => ?_, fun z hz => ?_, fun t r e => ?_⟩
  · split at e <;> split at e <;> simp only [List.length_append, List.length_cons, List.length_nil] at hi hj <;> omega
  · rcases Nat.lt_or_ge i A.length with hi | hi
    · rw [List.getElem?_append_left hi] at e
      rw [if_neg (show ¬ i = A.length by omega), List.getElem?_append_left hi, e, Blk.ren_low hf (lA _ (List.mem_of_getElem? e))]
    · have hi2 : i = A.length := by
        have := (List.getElem?_eq_some_iff.1 e).1
        simp only [List.length_append, List.length_cons, List.length_nil] at this; omega
      subst hi2
      rw [List.getElem?_append_right (Nat.le_refl _), Nat.sub_self] at e
      cases e
      simp only [if_true]
      rw [List.getElem?_append_right (by omega), show A.length + 1 - A.length = 1 by omega, Blk.ren_low hf ly]; rfl
  · have hi2 : i < A.length := by omega
    rw [List.getElem?_append_left hi2] at e
    exact Blk.ren_low hf (lA _ (List.mem_of_getElem? e))
  · rw [List.mem_append, List.mem_singleton] at hz
    rcases hz with hz | rfl
    · exact GA.low_mono (by simp) (lA z hz)
    · exact GA.low_mono (by simp) ly
  · rw [h5] at e
    have hlen : A.length ≤ (A ++ [y]).length := by simp
    rcases List.mem_cons.1 (stX_mem _ _ _ e) with e1 | e1
    · cases e1
      refine ⟨?_, by simp [AV.low]⟩
      rw [h7]; simp only [AV.ren, if_true]
    · have h8 := lL _ e1
      refine ⟨?_, AV.low_mono hlen h8⟩
      rw [AV.ren_low hf h8]
      simp only [stX, updX_eq, upd] at e
      split at e
      · rename_i h9
        cases e
        simp only [AV.low, decide_eq_true_eq] at h8; omega
      · exact stX_sub h6 t r e
theorem yieldMono {i : Nat} {rs : List AV} {k k' : AV → List Blk → Prop} (x : AYield P i rs H k) (hk : ∀ r H', k r H' → k' r H') : AYield P i rs H k' :=
  ⟨x.1, fun E h β w b vs s r e => let ⟨f, tmps, assign, body, h1, h2⟩ := x.2 E h β w b vs s r e; ⟨f, tmps, assign, body, h1, h2.mono fun _ _ => Ends.mono hk⟩⟩
def IterL (P : Program) (i : Nat) (K : List Blk → Prop) : List Nat → List Blk → Prop
  | [], H => K H
  | c :: cs, H => XYield P i [.int .i64 (c : Int)] H fun r H' => (r = .bool true ∧ IterL P i K cs H') ∨ (r = .bool false ∧ K H')
theorem IterL.run {i : Nat} {K : List Blk → Prop} {S : Type} (upd : S → List Blk) (step : S → Nat → S) (I : S → List Nat → Prop)
    (x : ∀ s c cs, I s (c :: cs) → XYield P i [.int .i64 (c : Int)] (upd s) (fun r H' => r = .bool true ∧ H' = upd (step s c)) ∧ I (step s c) cs) :
    ∀ (cs : List Nat) (s : S), I s cs → K (upd (cs.foldl step s)) → IterL P i K cs (upd s)
  | [], s, _, hk => hk
  | c :: cs, s, hI, hk => by
    obtain ⟨h1, h2⟩ := x s c cs hI
    refine ⟨yieldMono h1.o ?_⟩
    rintro r H' ⟨rfl, rfl⟩
    exact .inl ⟨rfl, IterL.run upd step I x cs _ h2 hk⟩
theorem IterL.go {i : Nat} {K : List Blk → Prop} {S : Type} {cs : List Nat} (upd : S → List Blk) (step : S → Nat → S) (I : S → List Nat → Prop) (s0 : S) (hH : upd s0 = H)
    (x : ∀ s c cs, I s (c :: cs) → XYield P i [.int .i64 (c : Int)] (upd s) (fun r H' => r = .bool true ∧ H' = upd (step s c)) ∧ I (step s c) cs) (hI : I s0 cs) (hk : K (upd (cs.foldl step s0))) : IterL P i K cs H := by
  have := IterL.run upd step I x cs s0 hI hk
  rwa [hH] at this
end

def arrF {α : Type} (f : α → AV) (r : List α) : AV := .agg (r.map f)
theorem XPutPart.rowsF {α : Type} {f : α → AV} {els : List AV} {n e' o w : Nat} {k : List AV → Prop} (rows : List (List α)) (e i : Nat) (v : α) (d : List α) (he : e = e') (hE : els = rows.map (arrF f)) (h1 : n = rows.length) (h2 : e < n) (hw : (rows.getD e d).length = w) (ho : o = i) (hi : i < w)
    (h : k ((rows.set e ((rows.getD e d).set i v)).map (arrF f))) : XPutPart els n e' o w [f v] k := by
  subst he; subst hE; subst ho
  have hg : (rows.map (arrF f)).getD e default = arrF f (rows.getD e d) := by
    rw [List.getD_eq_getElem?_getD, List.getElem?_map, List.getD_eq_getElem?_getD, List.getElem?_eq_getElem (by omega)]; rfl
  refine ⟨by rw [List.length_map]; exact h1, h2, by simp; omega, by rw [hg]; rfl, ?_⟩
  rw [hg]
  show k ((rows.map (arrF f)).set e (.agg (splice ((rows.getD e d).map f) o [f v])))
  have : splice ((rows.getD e d).map f) o [f v] = ((rows.getD e d).set o v).map f := by
    rw [List.map_set]
    have hl : o < ((rows.getD e d).map f).length := by rw [List.length_map]; omega
    rw [List.set_eq_take_append_cons_drop, if_pos hl]
    simp [splice]
  rw [this]
  rw [List.map_set] at h
  exact h
section
variable {α : Type}
def vecF (W : Nat) (F : Nat → α) : List α := if h : W = 0 then [] else vecF (W - 1) F ++ [F (W - 1)]
termination_by W
theorem vecF_eq (F : Nat → α) : ∀ W, vecF W F = (List.range W).map F
  | 0 => by rw [vecF]; rfl
  | n + 1 => by rw [vecF, dif_neg (by omega), Nat.add_sub_cancel, vecF_eq F n, List.range_succ, List.map_append]; rfl
def updV (F : Nat → α) (j : Nat) (v : α) : Nat → α := fun j' => if j' = j then v else F j'
theorem vecF_len (W : Nat) (F : Nat → α) : (vecF W F).length = W := by rw [vecF_eq]; simp
theorem vecF_get? (W : Nat) (F : Nat → α) (i : Nat) : (vecF W F)[i]? = if i < W then some (F i) else none := by
  rw [vecF_eq, List.getElem?_map]
  by_cases h : i < W
  · rw [List.getElem?_range h, if_pos h]; rfl
  · rw [List.getElem?_eq_none (by simpa using h), if_neg h]; rfl
theorem vecF_get {W : Nat} {F : Nat → α} {i : Nat} (d : α) (h : i < W) : (vecF W F).getD i d = F i := by rw [List.getD_eq_getElem?_getD, vecF_get?, if_pos h]; rfl
theorem vecF_congr {W : Nat} {F G : Nat → α} (h : ∀ i, i < W → F i = G i) : vecF W F = vecF W G := by
  apply List.ext_getElem?; intro i
  rw [vecF_get?, vecF_get?]
  by_cases h1 : i < W
  · rw [if_pos h1, if_pos h1, h i h1]
  · rw [if_neg h1, if_neg h1]
theorem vecF_set (W : Nat) (F : Nat → α) (j : Nat) (v : α) : (vecF W F).set j v = vecF W (updV F j v) := by
  apply List.ext_getElem?; intro i
  rw [List.getElem?_set, vecF_get?, vecF_get?, vecF_len]
  unfold updV
  by_cases h1 : j = i
  · subst h1; rw [if_pos rfl]
    by_cases h2 : j < W
    · rw [if_pos h2, if_pos h2, if_pos rfl]
    · rw [if_neg h2, if_neg h2]
  · rw [if_neg h1]
    by_cases h2 : i < W
    · rw [if_pos h2, if_pos h2, if_neg (fun e => h1 e.symm)]
    · rw [if_neg h2, if_neg h2]
theorem vecF_mem {W : Nat} {F : Nat → α} {x : α} : x ∈ vecF W F ↔ ∃ i, i < W ∧ F i = x := by rw [vecF_eq]; simp
theorem vecF_replicate (W : Nat) (v : α) : vecF W (fun _ => v) = List.replicate W v := by
  apply List.ext_getElem?; intro i
  rw [vecF_get?, List.getElem?_replicate]
def matF (N W : Nat) (F : Nat → Nat → α) : List (List α) := vecF N fun i => vecF W (F i)
def updM (F : Nat → Nat → α) (i j : Nat) (v : α) : Nat → Nat → α := fun i' j' => if i' = i ∧ j' = j then v else F i' j'
theorem matF_congr {N W : Nat} {F G : Nat → Nat → α} (h : ∀ i, i < N → ∀ j, j < W → F i j = G i j) : matF N W F = matF N W G := vecF_congr fun i hi => vecF_congr (h i hi)
theorem matF_set (N W : Nat) (F : Nat → Nat → α) (i j : Nat) (v : α) : (matF N W F).set i ((vecF W (F i)).set j v) = matF N W (updM F i j v) := by
  unfold matF
  rw [vecF_set]
  refine vecF_congr fun i' _ => ?_
  unfold updV updM
  by_cases h : i' = i
  · subst h; rw [if_pos rfl, vecF_set]
    refine vecF_congr fun j' _ => ?_
    unfold updV
    simp
  · rw [if_neg h]
    refine vecF_congr fun j' _ => ?_
    rw [if_neg (fun e => h e.1)]
variable {f : α → AV}
theorem XPutPart.mat {els : List AV} {n e' o w : Nat} {k : List AV → Prop} {N W : Nat} {F : Nat → Nat → α} (e i : Nat) (v : α) (he : e = e') (hE : els = (matF N W F).map (arrF f)) (h1 : n = N) (h2 : e < N) (ho : o = i) (hi : i < W) (hw : w = W)
    (h : k ((matF N W (updM F e i v)).map (arrF f))) : XPutPart els n e' o w [f v] k := by
  have hg : (matF N W F).getD e [] = vecF W (F e) := vecF_get _ h2
  refine XPutPart.rowsF (matF N W F) e i v [] he hE (by rw [h1]; exact (vecF_len _ _).symm) (by omega) (by rw [hg, vecF_len, hw]) ho (by omega) ?_
  rw [hg, matF_set]; exact h
theorem XGet.mat {n e : Nat} {k : List AV → Prop} {N W : Nat} {F : Nat → Nat → α} (h1 : n = N) (h2 : e < N) (h : k ((vecF W (F e)).map f)) : XGet ((matF N W F).map (arrF f)) n e k := by
  refine ⟨by rw [List.length_map]; exact h1.trans (vecF_len _ _).symm, by omega, ?_⟩
  have : ((matF N W F).map (arrF f)).getD e default = arrF f (vecF W (F e)) := by
    rw [List.getD_eq_getElem?_getD, List.getElem?_map, matF, vecF_get?, if_pos h2]; rfl
  rw [this]; exact h
theorem XIx.mat {n : Int} {w : Nat} {k : AV → Prop} {N W : Nat} {F : Nat → Nat → α} (i : Nat) (hn : n = i) (h2 : i < N) (hw : w = W) (h : k (.pim ((vecF W (F i)).map f))) : XIx ((matF N W F).map (arrF f)) n w k := by
  subst hn
  have : nth ((matF N W F).map (arrF f)) (i : Int) = arrF f (vecF W (F i)) := by
    unfold nth
    rw [Int.toNat_natCast, List.getD_eq_getElem?_getD, List.getElem?_map, matF, vecF_get?, if_pos h2]; rfl
  refine ⟨by omega, by rw [List.length_map, matF, vecF_len]; omega, by rw [this]; show ((vecF W (F i)).map f).length = w; rw [List.length_map, vecF_len, hw], ?_⟩
  rw [this]; exact h
theorem vec_at {W : Nat} {F : Nat → α} {j : Nat} (h : j < W) : ((vecF W F).map f)[j]? = some (f (F j)) := by rw [List.getElem?_map, vecF_get?, if_pos h]; rfl
theorem XArr.vec {n : Int} {m : Nat} {k : AV → Prop} {W : Nat} {F : Nat → α} (j : Nat) (hn : n = j) (h1 : j < m) (h2 : j < W) (h : k (.pim (f (F j) :: ((vecF W F).map f).drop (j * 1 + 1)))) : XArr (.pim ((vecF W F).map f)) n m 1 k := by
  subst hn
  exact XArr.at _ (by omega) (by omega) (by rw [Int.toNat_natCast, Nat.mul_one]; exact vec_at h2) h
theorem xdrop_vec {o : Nat} {k : List AV → Prop} {W : Nat} {F : Nat → α} (j : Nat) (ho : o = j) (hj : j < W) (h : k (f (F j) :: ((vecF W F).map f).drop (j + 1))) : xdrop o ((vecF W F).map f) k := by
  subst ho; exact xdrop_at _ (vec_at hj) h
theorem xtk_vec {n W : Nat} {F : Nat → α} {k : List AV → Prop} (hn : n = W) (h : k ((vecF W F).map f)) : xtk n ((vecF W F).map f) k := by
  have : ∀ (l : List AV) (k : List AV → Prop), k l → xtk l.length l k := by
    intro l; induction l with
    | nil => intro k h; exact h
    | cons x l ih => intro k h; exact ih (fun l => k (x :: l)) h
  have e : n = ((vecF W F).map f).length := by rw [List.length_map, vecF_len, hn]
  rw [e]; exact this _ _ h
theorem xn_vec {n W : Nat} {F : Nat → α} {A : Prop} (hn : n = W) (h : A) : xn n ((vecF W F).map f) A := by
  have : ∀ (l : List AV), xn l.length l A := by
    intro l; induction l with
    | nil => exact h
    | cons x l ih => exact ih
  have e : n = ((vecF W F).map f).length := by rw [List.length_map, vecF_len, hn]
  rw [e]; exact this _
theorem xspl_vec {o : Nat} {k : List AV → Prop} {W : Nat} {F : Nat → α} (v : α) (j : Nat) (ho : o = j) (hj : j < W) (h : k ((vecF W (updV F j v)).map f)) : xspl ((vecF W F).map f) o [f v] k := by
  subst ho
  have gen : ∀ (c : List AV) (o : Nat) (v : AV) (k : List AV → Prop), o < c.length → k (c.set o v) → xspl c o [v] k := by
    intro c; induction c with
    | nil => intro o v k h _; simp at h
    | cons x c ih =>
      intro o v k h hk
      cases o with
      | zero =>
        show xspl c 0 [] fun l => k (v :: l)
        cases c <;> exact hk
      | succ o => exact ih o v (fun l => k (x :: l)) (by simpa using h) hk
  refine gen _ _ _ _ (by rw [List.length_map, vecF_len]; exact hj) ?_
  rw [← List.map_set, vecF_set]; exact h
theorem xspl_vecA {k : List AV → Prop} {W : Nat} {F G : Nat → α} (h : k ((vecF W G).map f)) : xspl ((vecF W F).map f) 0 ((vecF W G).map f) k := by
  have gen : ∀ (c d : List AV) (k : List AV → Prop), c.length = d.length → k d → xspl c 0 d k := by
    intro c; induction c with
    | nil => intro d k h hk; cases d with | nil => exact hk | cons _ _ => simp at h
    | cons x c ih =>
      intro d k h hk
      cases d with
      | nil => simp at h
      | cons y d => exact ih d (fun l => k (y :: l)) (by simpa using h) hk
  exact gen _ _ _ (by rw [List.length_map, List.length_map, vecF_len, vecF_len]) h
theorem vec_low {n W : Nat} {F : Nat → α} (hf : ∀ x, (f x).low n = true) : lowL n ((vecF W F).map f) = true := lowL_map hf _
theorem mat_low {n N W : Nat} {F : Nat → Nat → α} (hf : ∀ x, (f x).low n = true) : lowL n ((matF N W F).map (arrF f)) = true := lowL_map (f := arrF f) (fun r => by show lowL n (r.map f) = true; exact lowL_map hf r) _
end
end GA
end

section
namespace GA
open Go Go.RowKit
set_option linter.unusedVariables false
section
variable {P : Program} {N : Nat} {ρ : Option Nat} {H : List Blk} {σ : St} {D : List Nat}

theorem flat_one : ∀ {els : List AV}, (∀ x ∈ els, x.one = true) → flat els = els
  | [], _ => rfl
  | x :: l, h => by
    have h1 := h x List.mem_cons_self
    have h2 := flat_one (els := l) fun y hy => h y (List.mem_cons_of_mem _ hy)
    have h3 : x.cells = [x] := by cases x <;> first | rfl | cases h1
    show x.cells ++ flat l = _
    rw [h3, h2]; rfl
theorem cells_one {x : AV} (h : x.one = true) : x.cells = [x] := by cases x <;> first | rfl | cases h

theorem Walk.run {T : Tab} {c : Code} {Q : Post} (ok : TabOk P T) (own : List Nat) (x : XRun P T N ρ own c Q D σ H) : Walk P N ρ c Q D σ H := ⟨XRun.sound ok x⟩
theorem XGet.set {els : List AV} {n e m : Nat} {x : AV} {k : List AV → Prop} (he : e = m) (hm : m < els.length) (hn : n = els.length) (h : k x.cells) : XGet (els.set m x) n e k := by
  subst he
  refine ⟨by rw [List.length_set]; exact hn, by omega, ?_⟩
  have : (els.set e x).getD e default = x := by rw [List.getD_eq_getElem?_getD, List.getElem?_set_self hm]; rfl
  rw [this]; exact h
theorem XPut.set {els : List AV} {n e m : Nat} {x v : AV} {k : List AV → Prop} (he : e = m) (hm : m < els.length) (hn : n = els.length) (h : k (els.set m v)) : XPut (els.set m x) n e v k := by
  subst he
  exact ⟨by rw [List.length_set]; exact hn, by omega, by rw [List.set_set]; exact h⟩
theorem FrozN.sl {n : Nat} {nl : Bool} {els els' : List AV} (hone : ∀ x ∈ els, x.one = true) (hone' : ∀ x ∈ els', x.one = true) (hs : FrozNL P n H els els') : FrozN P n H (.sl nl els) (.sl nl els') := by
  intro E h β w s v hr H1
  cases hr with
  | slnil =>
    have : els' = [] := List.eq_nil_of_length_eq_zero hs.1
    subst this; exact .slnil
  | slemp =>
    have : els' = [] := List.eq_nil_of_length_eq_zero hs.1
    subst this; exact .slemp
  | sl us hn hne hb hw hw0 ho hcap hc h3 =>
    rw [flat_one hone] at hc h3
    obtain ⟨e0, he0⟩ := List.exists_mem_of_ne_nil _ hne
    have hw1 := hw e0 he0
    rw [cells_one (hone e0 he0)] at hw1
    refine .sl us (by rw [hn, hs.1]) (fun e => hne (List.eq_nil_of_length_eq_zero (by rw [← hs.1, e]; rfl))) (hallN_imm s hb) (fun e he => by rw [cells_one (hone' e he)]; exact hw1) hw0 (fun x hx => ?_) (by rw [hs.1]; exact hcap) (fun j x e => ?_) (fun j x e => ?_)
    · rw [flat_one hone'] at hx; exact hone' x hx
    · rw [flat_one hone'] at e
      obtain ⟨y, e1, _⟩ := hs.2 j x e; exact hc j y e1
    · rw [flat_one hone'] at e
      obtain ⟨y, e1, e2⟩ := hs.2 j x e; exact e2 E h β w s _ (h3 j y e1) H1
end
end GA
end

section
namespace GA
open Go Go.RowKit
set_option linter.unusedVariables false
section
variable {P : Program} {N : Nat} {ρ : Option Nat} {H : List Blk} {σ : St} {D : List Nat} {Q : Post}

structure XFrz (u i n : Nat) (σ : St) (H : List Blk) (k : St → List Blk → Prop) : Prop where
  o : ∃ t nl els, σ u = some (.gr i n) ∧ lget H i = some (.grow t nl els) ∧ els.length = n ∧ k (updX σ u (.sl nl els)) (H.set i .dead)
theorem XFrz.go {u i n : Nat} {k : St → List Blk → Prop} {t : TypeId} {nl : Bool} {els : List AV} (hu : σ u = some (.gr i n)) (hi : lget H i = some (.grow t nl els)) (hn : els.length = n) (x : k (updX σ u (.sl nl els)) (H.set i .dead)) : XFrz u i n σ H k := ⟨t, nl, els, hu, hi, hn, x⟩
end
end GA
end

section
namespace GA
open Go Go.RowKit
set_option linter.unusedVariables false
section
variable {P : Program} {N : Nat} {ρ : Option Nat} {H : List Blk} {σ : St} {D : List Nat} {Q : Post} {E : Env} {h : Nat → Option Obj} {β : Nat → Value} {a : Act} {w : World}

theorem keep_stands (H1 l : List Blk) (L : List (Nat × AV)) (hlow : ∀ x ∈ H1, x.low H1.length = true) (hs : SubF P H1.length (H1 ++ l) L σ) (s : Stands P E N h β D σ (H1 ++ l) a w) :
    ∃ h', Ext h β (H1 ++ l) h' β (H1 ++ l.map fun _ => .dead) ∧ Stands P E N h' β D (stX L) (H1 ++ l.map fun _ => .dead) a w := by
  have hd : ∀ (l : List Blk) (i : Nat) x, (l.map fun _ => Blk.dead)[i]? = some x → x = .dead := fun l i x e => by
    rw [List.getElem?_map] at e
    cases hx : l[i]? with
    | none => rw [hx] at e; cases e
    | some y => rw [hx] at e; cases e; rfl
  have X : Ext h β (H1 ++ l) (hallN H1.length h β (H1 ++ l) w) β (H1 ++ l.map fun _ => .dead) := by
    refine ⟨fun b o e => hallN_imm s.sr e, by simp, fun i x x' e e' => ?_⟩
    by_cases hi : i < H1.length
    · rw [List.getElem?_append_left hi] at e e'
      rw [e] at e'; cases e'; exact Blk.to_refl _ _ _
    · rw [List.getElem?_append_right (by omega)] at e'
      have := hd _ _ _ e'
      subst this
      cases x <;> first | rfl | trivial | exact .inl rfl
  have s1 := s.sr.allN hlow
  have X1 : Ext (hallN H1.length h β (H1 ++ l) w) β H1 (hallN H1.length h β (H1 ++ l) w) β (H1 ++ l.map fun _ => .dead) :=
    ⟨fun _ _ e => e, by simp, fun i x x' e e' => by rw [List.getElem?_append_left (List.getElem?_eq_some_iff.1 e).1, e] at e'; cases e'; exact Blk.to_refl _ _ _⟩
  have hbo : ∀ i b, blkOf β (H1 ++ l.map fun _ => .dead) i = some b → blkOf β H1 i = some b := fun i b e => by
    have hlt := (blkOf_some e).1
    by_cases hi : i < H1.length
    · rw [← e]; exact (blkOf_congr rfl (List.getElem?_append_left hi)).symm
    · exfalso
      unfold blkOf at e
      cases hx : (H1 ++ l.map fun _ => Blk.dead)[i]? with
      | none => rw [hx] at e; cases e
      | some x =>
        rw [hx] at e
        rw [List.getElem?_append_right (by omega)] at hx
        have := hd _ _ _ hx
        subst this; cases e
  have s2 : SR P E (hallN H1.length h β (H1 ++ l) w) β (H1 ++ l.map fun _ => .dead) w := by
    refine s1.grown X1 s1.env s1.imm (fun i x e => ?_) (fun i j b e1 e2 => s1.own i j b (hbo _ _ e1) (hbo _ _ e2)) (fun i b e => s1.fresh i b (hbo _ _ e)) s1.frm (fun i b e => s1.fro i b (hbo _ _ e))
    by_cases hi : i < H1.length
    · rw [List.getElem?_append_left hi] at e; exact .inl ⟨e, rfl, fun _ _ => rfl⟩
    · rw [List.getElem?_append_right (by omega)] at e
      have := hd _ _ _ e
      subst this; exact .inr trivial
  refine ⟨_, X, ⟨s2, fun t r e => ?_, s.size, s.df.ext X⟩⟩
  obtain ⟨r0, e1, e2⟩ := stX_subF hs t r e
  obtain ⟨v, h1, h2⟩ := s.fits t r0 e1
  rcases e2 with e2 | ⟨rfl, e2⟩
  · exact ⟨v, h1, e2 E h β w s.sr v h2 _⟩
  · refine ⟨v, h1, X1.rep (Rep.cut (l := l) ?_ e2)⟩
    have XA : Ext h β (H1 ++ l) (hallN H1.length h β (H1 ++ l) w) β (H1 ++ l) := ⟨fun b o e => hallN_imm s.sr e, Nat.le_refl _, fun i x x' e e' => by rw [e] at e'; cases e'; exact Blk.to_refl _ _ _⟩
    exact XA.rep h2
structure XKeepE (P : Program) (σ : St) (H : List Blk) (k : St → List Blk → Prop) : Prop where
  o : ∃ (H1 l : List Blk) (L : List (Nat × AV)), H1 ++ l = H ∧ (∀ x ∈ H1, x.low H1.length = true) ∧ SubF P H1.length H L σ ∧ k (stX L) (H1 ++ l.map fun _ => .dead)
theorem XKeepE.go {k : St → List Blk → Prop} (H1 l : List Blk) (L : List (Nat × AV)) (hH : H1 ++ l = H) (hlow : ∀ x ∈ H1, x.low H1.length = true) (hs : SubF P H1.length H L σ) (x : k (stX L) (H1 ++ l.map fun _ => .dead)) : XKeepE P σ H k := ⟨H1, l, L, hH, hlow, hs, x⟩
theorem hallN_zero {h : Nat → Option Obj} {β : Nat → Value} {H : List Blk} {w : World} : hallN 0 h β H w = hall h β H w := by
  funext b
  by_cases hx : ∃ i, blkOf β H i = some b
  · obtain ⟨i, hi⟩ := hx
    rw [hallN_own (Nat.zero_le i) hi]
    unfold hall; rw [if_pos ⟨i, hi⟩]
  · unfold hallN hall
    rw [if_neg hx, if_neg (fun ⟨i, _, h⟩ => hx ⟨i, h⟩)]
theorem Froz.n0 {r r' : AV} (f : Froz P H r r') : FrozN P 0 H r r' := fun E h β w s v hr H1 => by
  rw [hallN_zero]
  exact (f E h β w s v hr).none
theorem XKeep.all {r r' : AV} (f : Froz P H r r') : XKeep P 0 H r r' := .inl f.n0
end
end GA
end

section
namespace GA
open Go Go.RowKit
set_option linter.unusedVariables false
section
variable {P : Program} {N : Nat} {ρ : Option Nat} {H : List Blk} {σ : St} {D : List Nat} {Q : Post}
structure XDo (P : Program) (N : Nat) (D : List Nat) (σ : St) (H : List Blk) (K : St → List Blk → Prop) : Prop where
  o : ∀ E h β a w, Stands P E N h β D σ H a w → ∃ σ' H' h' β', K σ' H' ∧ Ext h β H h' β' H' ∧ Stands P E N h' β' D σ' H' a w
def doQ (P : Program) (N : Nat) (Q : Post) : Post
  | .exit id, D, σ, H => XDo P N D σ H (Q (.exit id) D)
  | e, D, σ, H => Q e D σ H
theorem Walk.thenDo {c : Code} (x : Walk P N ρ c (doQ P N Q) D σ H) : Walk P N ρ c Q D σ H := by
  constructor
  intro E h β a w s
  refine wpIn_mono (x.o E h β a w s) fun e a' w' hc => ?_
  obtain ⟨D', σ', H', h', β', q, X, s'⟩ := hc
  cases e with
  | exit id =>
    obtain ⟨σ2, H2, h2, β2, q2, X2, s2⟩ := q.o E h' β' a' w' s'
    exact ⟨D', σ2, H2, h2, β2, q2, X.trans X2, s2⟩
  | _ => exact ⟨D', σ', H', h', β', q, X, s'⟩
theorem XDo.run {K : St → List Blk → Prop} (x : K σ H) : XDo P N D σ H K := ⟨fun E h β a w s => ⟨σ, H, h, β, x, Ext.refl _ _ _, s⟩⟩
theorem XDo.freezeMap {K : St → List Blk → Prop} (j i n : Nat) {es : List (Int × AV)} (es' : List (Int × AV)) {t : TypeId} {nl : Bool} {els : List AV} (hj : lget H j = some (.map es)) (hi : lget H i = some (.grow t nl els)) (hn : els.length = n)
    (hf : FrzE i n nl els es es') (x : XDo P N D σ ((H.set i .dead).set j (.map es')) K) : XDo P N D σ H K := by
  constructor
  intro E h β a w s
  rw [lget_eq] at hi hj
  have hij : i ≠ j := by rintro rfl; rw [hi] at hj; cases hj
  obtain ⟨h', s1, X1, hfz⟩ := s.sr.freeze hi
  have hj1 : (H.set i .dead)[j]? = some (.map es) := by rw [List.getElem?_set_ne hij]; exact hj
  obtain ⟨s2, X2⟩ := s1.modify (β' := β) (w' := w) (x' := .map es') hj1 (fun _ _ => rfl) (.inr ⟨_, rfl, rfl⟩) s1.env (fun _ _ _ => rfl) (fun b e => .inl (by unfold blkOf; rw [hj1]; exact e)) (fun X => by
    obtain ⟨q, ents, clock, h1, h2, h3, h4, us, h5⟩ := s.sr.blk j _ hj
    have hl : es'.length = es.length := by have := congrArg List.length hf.k; simpa using this
    refine ⟨q, ents, clock, h1, h2, by rw [hf.k]; exact h3, by rw [hl]; exact h4, us, fun m key y e => ?_⟩
    obtain ⟨x0, e0, hx⟩ := hf.o m key y e
    obtain ⟨hr, born⟩ := h5 m key x0 e0
    refine ⟨?_, born⟩
    rcases hx with rfl | ⟨rfl, rfl⟩
    · exact (X1.trans X).rep hr
    · exact gr_frz s.sr hi hn hr (X1.trans X) hfz)
  obtain ⟨σ2, H2, h2, β2, q2, X3, s3⟩ := x.o E h' β a w ⟨s2, fun u r e => let ⟨v, h1, h2⟩ := s.fits u r e; ⟨v, h1, (X1.trans X2).rep h2⟩, s.size, s.df.ext (X1.trans X2)⟩
  exact ⟨σ2, H2, h2, β2, q2, (X1.trans X2).trans X3, s3⟩
theorem Walk.loopGKL {T : Tab} {c : Code} {G : Type} (ok : TabOk P T) (own : List Nat) (lp : Blk) (K : List (Nat × AV)) (hK : SubX K σ) (I : G → Prop) (L : G → List (Nat × AV)) (hp : Blk → G → List Blk) (μ : G → Nat) (g0 : G) (h0 : I g0) (hH : hp lp g0 = H) (hs : SubX (L g0) σ)
    (hlow : ∀ g, I g → (∀ x ∈ hp lp g, x.low (hp lp g).length = true) ∧ ∀ p ∈ K ++ L g, p.2.low (hp lp g).length = true) (hlen : ∀ g, I g → (hp lp g0).length ≤ (hp lp g).length)
    (round : ∀ g, I g → XRun P T N ρ own c (thenQ (XAgainG I (fun g => K ++ L g) (hp lp) μ g) Q) [] (stX (K ++ L g)) (hp lp g)) : Walk P N ρ (.loop c) Q [] σ H :=
  Walk.loopGK ok own K hK I L (hp lp) μ g0 h0 hH hs hlow hlen round
theorem Walk.seq {a b : Code} (x : Walk P N ρ a (thenQ (fun D σ H => Walk P N ρ b Q D σ H) Q) D σ H) : Walk P N ρ (.seq a b) Q D σ H :=
  ⟨AWp.seq (AWp.mono x.o fun e D σ H q => by cases e <;> first | exact q.o | exact q)⟩
theorem Comp.bodyW {T : Tab} {f : FuncId} {fn : Func} {c : Code} {rs : List AV} {res : List ResultVar} {r0 : AV} (ok : TabOk P T) (own : List Nat) (hf : P.funcs[f]? = some fn) (hb : fn.body = some c) (hn : (fn.name == "runtime.NumGoroutine") = false)
    (hN : fn.ntmps = N) (hr : fn.results = res.toArray) (hl : rs.length ≤ N) (hlo : lowL 0 rs = true) (x : Walk P N none c (XFn P T res r0) [] (argX rs) []) : Comp P f rs r0 := by
  refine ⟨hlo, ?_⟩
  obtain ⟨h1, h2⟩ := ACall.inl0 (k := fun r H => XOut P H r r0) ok own hf hb hn hN hr hl (AWp.mono x.o (fun e D σ H q => by
    unfold XFn at q
    split at q
    · exact q
    · exact q
    · exact q.elim))
  refine ⟨h1, fun E h β w vs s hrs => (h2 E h β w vs s hrs).mono ?_⟩
  rintro e w' ⟨r, H', h', β', v, rfl, hk, X, s', hrep⟩
  exact ⟨r0, [], hall h' β' H' w', β', v, rfl, ⟨rfl, rfl⟩, ⟨fun b o eb => hall_imm s' (X.imm b o eb), Nat.le_refl _, by simp⟩, s'.all, hk.o E h' β' w' s' v hrep⟩
end
end GA
end

section
namespace GA
open Go Go.RowKit Go.Proofs
set_option linter.unusedVariables false
set_option linter.unusedSimpArgs false

theorem one1 {a : AV} (h : a.one = true) : ∀ x ∈ [a], x.one = true := fun x hx => by rw [List.mem_singleton] at hx; rw [hx]; exact h
theorem ints_len (xs : List Int) : (ints xs).length = xs.length := List.length_map _
end GA
end

section
namespace GA
open Go Go.RowKit Go.Proofs
set_option maxRecDepth 8000
set_option linter.unusedVariables false
set_option linter.unusedSimpArgs false

abbrev Wy := Int × Int × Int
abbrev Rw := Bool × List Int
abbrev Sps := Bool × List (Int × Int)
abbrev Tru := Bool × List Sps
structure Sn where
  places : Int
  home : Int
  bed : Int
  last : Int
  nw : Bool
  ways : List Wy
  nk : Bool
  looks : List Rw
  nt : Bool
  truths : List Tru
instance : Inhabited Sn := ⟨⟨0, 0, 0, 0, true, [], true, [], true, []⟩⟩
def wyA (w : Wy) : AV := .agg [.int .i64 w.1, .int .i64 w.2.1, .int .i64 w.2.2]
def rwA (r : Rw) : AV := .sl r.1 (ints r.2)
def sgA (x : Int × Int) : AV := .agg [.int .i64 x.1, .int .i64 x.2]
def spsA (r : Sps) : AV := .sl r.1 (r.2.map sgA)
def trA (t : Tru) : AV := .agg [.sl t.1 (t.2.map spsA)]
def snC (s : Sn) : List AV := [.int .i64 s.places, .int .i64 s.home, .int .i64 s.bed, .int .i64 s.last, .sl s.nw (s.ways.map wyA), .sl s.nk (s.looks.map rwA), .sl s.nt (s.truths.map trA)]
def snA (s : Sn) : AV := .agg (snC s)
theorem wyL {n : Nat} (w : Wy) : (wyA w).low n = true := rfl
theorem rwL {n : Nat} (r : Rw) : (rwA r).low n = true := lowI r.2
theorem lowWy {n : Nat} (xs : List Wy) : lowL n (xs.map wyA) = true := lowL_map (fun _ => rfl) xs
theorem lowSg {n : Nat} (xs : List (Int × Int)) : lowL n (xs.map sgA) = true := lowL_map (fun _ => rfl) xs
theorem lowRk {n : Nat} (xs : List Rw) : lowL n (xs.map rwA) = true := lowL_map (fun _ => rwL _) xs
theorem spsL {n : Nat} (r : Sps) : (spsA r).low n = true := lowSg r.2
theorem lowSps {n : Nat} (xs : List Sps) : lowL n (xs.map spsA) = true := lowL_map (fun _ => spsL _) xs
theorem trL {n : Nat} (t : Tru) : (trA t).low n = true := by unfold trA; simp only [AV.low, lowL, lowSps]; rfl
theorem lowTr {n : Nat} (xs : List Tru) : lowL n (xs.map trA) = true := lowL_map (fun _ => trL _) xs
theorem snCL {n : Nat} (s : Sn) : lowL n (snC s) = true := by unfold snC; simp only [lowL, AV.low, lowWy, lowRk, lowTr]; rfl
theorem snL {n : Nat} (s : Sn) : (snA s).low n = true := snCL s
theorem snOne (s : Sn) : ∀ x ∈ snC s, x.one = true := by simp [snC, AV.one]
def bsum (f : Nat → Bool) : Nat → Nat
  | 0 => 0
  | n + 1 => bsum f n + if f n = true then 2 ^ n else 0
theorem bsum_lt (f : Nat → Bool) : ∀ n, bsum f n < 2 ^ n
  | 0 => by simp [bsum]
  | n + 1 => by
    have := bsum_lt f n
    rw [bsum, Nat.pow_succ]
    split <;> omega
theorem bsum_bit (f : Nat → Bool) : ∀ n i, (bsum f n).testBit i = (decide (i < n) && f i)
  | 0, i => by simp [bsum]
  | n + 1, i => by
    have hlt := bsum_lt f n
    have ih := bsum_bit f n i
    rw [bsum]
    by_cases hf : f n = true
    · rw [if_pos hf, show bsum f n + 2 ^ n = 2 ^ n * 1 + bsum f n by omega, Nat.testBit_two_pow_mul_add 1 hlt]
      by_cases hi : i < n
      · rw [if_pos hi, ih]; simp [hi, show i < n + 1 by omega]
      · rw [if_neg hi, show (1 : Nat) = 2 ^ 0 from rfl, Nat.testBit_two_pow]
        by_cases he : i = n
        · subst he; simp [hf]
        · simp [show ¬ i < n + 1 by omega]; omega
    · rw [if_neg hf, Nat.add_zero, ih]
      by_cases he : i = n
      · subst he; simp [hf]
      · congr 1; rw [decide_eq_decide]; omega
theorem bsum_congr {f g : Nat → Bool} : ∀ {n : Nat}, (∀ i, i < n → f i = g i) → bsum f n = bsum g n
  | 0, _ => rfl
  | n + 1, h => by rw [bsum, bsum, bsum_congr fun i hi => h i (by omega), h n (by omega)]
theorem bsum_set {f : Nat → Bool} {n i : Nat} (h : i < n) : bsum f n ||| 2 ^ i = bsum (updV f i true) n := by
  refine bit_ext fun k => ?_
  rw [Nat.testBit_or, bsum_bit, bsum_bit, Nat.testBit_two_pow]
  unfold updV
  by_cases he : i = k
  · subst he; simp [h]
  · rw [if_neg (fun e => he e.symm)]; simp [he]
def dryT (s : Sn) (t p m : Nat) : Bool := ((s.truths.getD t default).2.getD p default).2.any fun x => inZ m x.1 x.2
def drN (s : Sn) (p m : Nat) : Nat := bsum (fun t => dryT s t p m) s.truths.length
def allN (s : Sn) : Nat := 2 ^ s.truths.length - 1
def lookZ (s : Sn) (t p : Nat) : Int := (s.looks.getD t default).2.getD p default
def partN (s : Sn) (p left n : Nat) : Nat := bsum (fun t => lookZ s t p == n && left.testBit t) s.looks.length
def partsK (s : Sn) (p left : Nat) : Nat → List Nat
  | 0 => []
  | n + 1 => partsK s p left n ++ if partN s p left n = 0 then [] else [partN s p left n]
def partsL (s : Sn) (p left : Nat) : List Nat := partsK s p left 4
structure Sta where
  p : Nat
  m : Nat
  l : Nat
  deriving DecidableEq
instance : Inhabited Sta := ⟨⟨0, 0, 0⟩⟩
def staA (x : Sta) : AV := .agg [natA x.p, natA x.m, natA x.l]
def safeB (s : Sn) (x : Sta) : Bool := diff x.l (drN s x.p x.m) == 0 && x.l != 0
def leadB (w : Wy) (p q : Int) : Bool := w.1 == p && w.2.1 == q || w.1 == q && w.2.1 == p
def waysQ (s : Sn) (p q : Nat) : List (Int × Int) := (if p = q then [((p : Int), (1 : Int))] else []) ++ (s.ways.filter fun w => leadB w p q).map fun w => ((q : Int), w.2.2)
def waysK (s : Sn) (p : Nat) : Nat → List (Int × Int)
  | 0 => []
  | q + 1 => waysK s p q ++ waysQ s p q
def waysL (s : Sn) (p : Nat) : List (Int × Int) := waysK s p s.places.toNat
def outS (s : Sn) (x : Sta) (t : Int × Int) : List Sta := (partsL s t.1.toNat x.l).map fun l => ⟨t.1.toNat, (x.m + t.2).toNat, l⟩
def afterS (s : Sn) (x : Sta) (t : Int × Int) : List Sta :=
  if safeB s x = true ∧ inZ (x.m + t.2) 0 s.last = true ∧ (waysL s x.p).contains t = true ∧ (outS s x t).all (safeB s) = true then outS s x t else []
def stepsS (s : Sn) (x : Sta) : List (Int × Int) := (waysL s x.p).filter fun t => !(afterS s x t).isEmpty
def minL (f : Sta → Int) : List Sta → Int
  | [] => 0
  | x :: l => l.foldl (fun n y => min n (f y)) (f x)
def gainZ (s : Sn) (f : Sta → Int) (x : Sta) (t : Int × Int) : Int :=
  let n := minL f (afterS s x t)
  if n ≠ -1 ∧ (x.p : Int) = s.bed ∧ t.1 = s.bed then n + 1 else n
def homeZ (s : Sn) (x : Sta) : Int := if (x.p : Int) = s.home then 0 else -1
def bestZ (s : Sn) (f : Sta → Int) (x : Sta) : Int := if safeB s x = true then (stepsS s x).foldl (fun n t => max n (gainZ s f x t)) (homeZ s x) else -1
def worthK (s : Sn) : Nat → Sta → Int
  | 0, _ => -1
  | k + 1, x => bestZ s (worthK s k) x
def worthZ (s : Sn) (x : Sta) : Int := worthK s (s.last + 1 - x.m).toNat x
def nvs (W : Nat) (F : Nat → Nat) : List AV := (vecF W F).map natA
theorem nvs_len (W : Nat) (F : Nat → Nat) : (nvs W F).length = W := by unfold nvs; rw [List.length_map, vecF_len]
theorem nvs_low {n : Nat} (W : Nat) (F : Nat → Nat) : lowL n (nvs W F) = true := vec_low fun _ => rfl
theorem nvs0 (W : Nat) : List.replicate W (AV.int .i64 0) = nvs W fun _ => 0 := by unfold nvs; rw [vecF_replicate, List.map_replicate]; rfl
def spX (s : Sn) (t p k : Nat) : Int × Int := (((s.truths.getD t default).2.getD p default).2).getD k default
def dryW (s : Sn) (i p k : Nat) (m0 : Int) (t q m : Nat) : Bool :=
  if t < i then dryT s t q m
  else if t = i then (if q < p then dryT s i q m else if q = p then ((((s.truths.getD i default).2.getD p default).2.take k).any fun x => inZ m x.1 x.2) || (decide ((spX s i p k).1 ≤ m) && decide ((m : Int) < m0) && decide ((m : Int) ≤ (spX s i p k).2)) else false)
  else false
def dryG (T : Nat) (F : Nat → Nat → Nat → Bool) (j : Nat) : Nat := bsum (fun t => F t (j / 61) (j % 61)) T
theorem dryG_set {T i p m : Nat} {F F' : Nat → Nat → Nat → Bool} (hi : i < T) (hm : m < 61) (h : ∀ t q k, F' t q k = if t = i ∧ q = p ∧ k = m then true else F t q k) : dryG T F' = updV (dryG T F) (61 * p + m) (dryG T F (61 * p + m) ||| 2 ^ i) := by
  funext j
  unfold updV
  by_cases hj : j = 61 * p + m
  · rw [if_pos hj]
    unfold dryG
    have h1 : j / 61 = p := by omega
    have h2 : j % 61 = m := by omega
    rw [← hj, bsum_set hi, h1, h2]
    refine bsum_congr fun t ht => ?_
    rw [h]
    unfold updV
    by_cases e : t = i
    · rw [if_pos ⟨e, rfl, rfl⟩, if_pos e]
    · rw [if_neg (fun h => e h.1), if_neg e]
  · rw [if_neg hj]
    unfold dryG
    refine bsum_congr fun t ht => ?_
    rw [h, if_neg (fun h => hj (by omega))]
theorem dryW_min {s : Sn} {i p k : Nat} {m : Nat} (h1 : (spX s i p k).1 ≤ m) (h2 : (m : Int) ≤ (spX s i p k).2) (t q n : Nat) : dryW s i p k ((m : Int) + 1) t q n = if t = i ∧ q = p ∧ n = m then true else dryW s i p k m t q n := by
  unfold dryW
  by_cases e1 : t < i
  · rw [if_pos e1, if_neg (fun h => by omega), if_pos e1]
  · rw [if_neg e1]
    by_cases e2 : t = i
    · rw [if_pos e2]
      by_cases e3 : q < p
      · rw [if_pos e3, if_neg (fun h => by omega), if_neg e1, if_pos e2, if_pos e3]
      · rw [if_neg e3]
        by_cases e4 : q = p
        · rw [if_pos e4]
          by_cases e5 : n = m
          · rw [if_pos ⟨e2, e4, e5⟩, e5]
            have a1 : decide ((spX s i p k).1 ≤ (m : Int)) = true := decide_eq_true h1
            have a2 : decide ((m : Int) < (m : Int) + 1) = true := decide_eq_true (by omega)
            have a3 : decide ((m : Int) ≤ (spX s i p k).2) = true := decide_eq_true h2
            rw [a1, a2, a3]; simp
          · rw [if_neg (fun h => e5 h.2.2), if_neg e1, if_pos e2, if_neg e3, if_pos e4]
            have : decide ((n : Int) < (m : Int) + 1) = decide ((n : Int) < (m : Int)) := by rw [decide_eq_decide]; omega
            rw [this]
        · rw [if_neg e4, if_neg (fun h => e4 h.2.1), if_neg e1, if_pos e2, if_neg e3, if_neg e4]
    · rw [if_neg e2, if_neg (fun h => e2 h.1), if_neg e1, if_neg e2]
def dryV (s : Sn) (i p k : Nat) : Nat → Nat → Nat → Bool := dryW s i p k (spX s i p k).1
theorem dryV_eq (s : Sn) (i p k t q m : Nat) : dryV s i p k t q m = if t < i then dryT s t q m else if t = i then (if q < p then dryT s i q m else if q = p then ((((s.truths.getD i default).2.getD p default).2.take k).any fun x => inZ m x.1 x.2) else false) else false := by
  unfold dryV dryW
  have h : (decide ((spX s i p k).1 ≤ (m : Int)) && decide ((m : Int) < (spX s i p k).1) && decide ((m : Int) ≤ (spX s i p k).2)) = false := by
    by_cases h : (spX s i p k).1 ≤ (m : Int)
    · rw [show decide ((m : Int) < (spX s i p k).1) = false from decide_eq_false (by omega)]; simp
    · rw [decide_eq_false h]; rfl
  rw [h, Bool.or_false]
theorem dryV_span {s : Sn} {i p k : Nat} (hk : k < ((s.truths.getD i default).2.getD p default).2.length) : dryW s i p k ((spX s i p k).2 + 1) = dryV s i p (k + 1) := by
  funext t q m
  rw [dryV_eq]
  unfold dryW
  by_cases e1 : t < i
  · rw [if_pos e1, if_pos e1]
  · rw [if_neg e1, if_neg e1]
    by_cases e2 : t = i
    · rw [if_pos e2, if_pos e2]
      by_cases e3 : q < p
      · rw [if_pos e3, if_pos e3]
      · rw [if_neg e3, if_neg e3]
        by_cases e4 : q = p
        · rw [if_pos e4, if_pos e4, take_next hk, List.any_append]
          congr 1
          show _ = (inZ m (spX s i p k).1 (spX s i p k).2 || false)
          rw [Bool.or_false]
          unfold inZ
          by_cases h : (m : Int) ≤ (spX s i p k).2
          · rw [show decide ((m : Int) < (spX s i p k).2 + 1) = true from decide_eq_true (by omega), Bool.and_true]
          · rw [decide_eq_false h, Bool.and_false, Bool.and_false]
        · rw [if_neg e4, if_neg e4]
    · rw [if_neg e2, if_neg e2]
theorem dryV_row (s : Sn) (i p : Nat) : dryV s i p ((s.truths.getD i default).2.getD p default).2.length = dryV s i (p + 1) 0 := by
  funext t q m
  rw [dryV_eq, dryV_eq]
  by_cases e1 : t < i
  · rw [if_pos e1, if_pos e1]
  · rw [if_neg e1, if_neg e1]
    by_cases e2 : t = i
    · rw [if_pos e2, if_pos e2, List.take_length]
      by_cases e3 : q < p
      · rw [if_pos e3, if_pos (by omega)]
      · rw [if_neg e3]
        by_cases e4 : q = p
        · rw [if_pos e4, if_pos (by omega), e4]; rfl
        · rw [if_neg e4, if_neg (by omega)]
          by_cases e5 : q = p + 1
          · rw [if_pos e5]; rfl
          · rw [if_neg e5]
    · rw [if_neg e2, if_neg e2]
theorem dryT_far {s : Sn} {t q m : Nat} (h : (s.truths.getD t default).2.length ≤ q) : dryT s t q m = false := by
  unfold dryT
  rw [List.getD_eq_getElem?_getD (l := (s.truths.getD t default).2), List.getElem?_eq_none h]; rfl
theorem dryV_truth (s : Sn) (i : Nat) : dryV s i (s.truths.getD i default).2.length 0 = dryV s (i + 1) 0 0 := by
  funext t q m
  rw [dryV_eq, dryV_eq]
  by_cases e1 : t < i
  · rw [if_pos e1, if_pos (by omega)]
  · rw [if_neg e1]
    by_cases e2 : t = i
    · rw [if_pos e2, if_pos (show t < i + 1 by omega), e2]
      by_cases e3 : q < (s.truths.getD i default).2.length
      · rw [if_pos e3]
      · rw [if_neg e3, dryT_far (by omega)]
        split <;> rfl
    · rw [if_neg e2, if_neg (by omega)]
      by_cases e3 : t = i + 1
      · rw [if_pos e3]
        by_cases e4 : q < 0
        · omega
        · rw [if_neg e4]
          split <;> rfl
      · rw [if_neg e3]
theorem dryV_beg (s : Sn) : dryV s 0 0 0 = fun _ _ _ => false := by
  funext t q m
  rw [dryV_eq, if_neg (by omega)]
  split
  · rw [if_neg (by omega)]
    split <;> rfl
  · rfl
theorem dryV_end (s : Sn) {t q m : Nat} (ht : t < s.truths.length) : dryV s s.truths.length 0 0 t q m = dryT s t q m := by rw [dryV_eq, if_pos ht]
theorem dryG_end (s : Sn) {p m : Nat} (hm : m < 61) : dryG s.truths.length (dryV s s.truths.length 0 0) (61 * p + m) = drN s p m := by
  unfold dryG drN
  rw [show (61 * p + m) / 61 = p by omega, show (61 * p + m) % 61 = m by omega]
  exact bsum_congr fun t ht => dryV_end s ht
theorem dryG_beg (s : Sn) (T : Nat) : dryG T (dryV s 0 0 0) = fun _ => 0 := by
  funext j
  unfold dryG
  rw [dryV_beg]
  induction T with
  | zero => rfl
  | succ n ih => rw [bsum, ih]; rfl
def cntB (s : Sn) : Bool := inZ s.places 1 5 && inZ s.truths.length 1 4 && decide ((s.ways.length : Int) ≤ 10) && decide ((s.looks.length : Int) = s.truths.length) && s.looks.all (fun l => decide ((l.2.length : Int) = s.places)) && s.truths.all (fun t => decide ((t.2.length : Int) = s.places))
def plB (s : Sn) (p : Int) : Bool := inZ p 0 (s.places - 1)
def wyB (s : Sn) (i : Nat) : Wy := s.ways.getD i default
def agnI (s : Sn) (i : Nat) : Bool := (wyB s i).1 == (wyB s i).2.1 || (s.ways.take i).any fun x => leadB x (wyB s i).1 (wyB s i).2.1
def agnB (s : Sn) : Bool := (List.range s.ways.length).any (agnI s)
def spBad (pv : Option Int) (lo : Int) : Bool := match pv with | some h => decide (lo ≤ h + 1) | none => false
def spE (last : Int) : Option Int → List (Int × Int) → Int
  | _, [] => 0
  | pv, x :: l => if (inZ x.1 0 last && inZ x.2 x.1 last) = false then 3 else if spBad pv x.1 = true then 4 else spE last (some x.2) l
def firstE : List Int → Int
  | [] => 0
  | e :: l => if e ≠ 0 then e else firstE l
theorem firstE_iff : ∀ {l : List Int}, firstE l = 0 ↔ ∀ e ∈ l, e = 0
  | [] => by simp [firstE]
  | e :: l => by
    rw [firstE]
    by_cases h : e = 0
    · rw [if_neg (fun h' => h' h), firstE_iff]; simp [h]
    · rw [if_pos h]; simp [h]
def trE (s : Sn) (t : Tru) : Int := firstE (t.2.map fun r => spE s.last none r.2)
def snE (s : Sn) : Int :=
  if cntB s = false then 2
  else if inZ s.last 1 60 = false ∨ s.ways.all (fun w => inZ w.2.2 1 20) = false then 3
  else if s.looks.all (fun l => l.2.all fun n => inZ n 0 3) = false then 3
  else if plB s s.home = false ∨ plB s s.bed = false ∨ s.ways.all (fun w => plB s w.1 && plB s w.2.1) = false then 1
  else if s.home = s.bed then 5
  else if agnB s = true then 5
  else firstE (s.truths.map (trE s))
structure SnOk (s : Sn) : Prop where
  p1 : 1 ≤ s.places
  p2 : s.places ≤ 5
  t1 : 1 ≤ s.truths.length
  t2 : s.truths.length ≤ 4
  w1 : s.ways.length ≤ 10
  k1 : s.looks.length = s.truths.length
  kl : ∀ l ∈ s.looks, (l.2.length : Int) = s.places
  tl : ∀ t ∈ s.truths, (t.2.length : Int) = s.places
  l1 : 1 ≤ s.last
  l2 : s.last ≤ 60
  wm : ∀ w ∈ s.ways, 1 ≤ w.2.2 ∧ w.2.2 ≤ 20
  kn : ∀ l ∈ s.looks, ∀ n ∈ l.2, 0 ≤ n ∧ n ≤ 3
  h1 : 0 ≤ s.home ∧ s.home < s.places
  b1 : 0 ≤ s.bed ∧ s.bed < s.places
  wp : ∀ w ∈ s.ways, 0 ≤ w.1 ∧ w.1 < s.places ∧ 0 ≤ w.2.1 ∧ w.2.1 < s.places
  hb : s.home ≠ s.bed
  wa : ∀ i, i < s.ways.length → agnI s i = false
  sp : ∀ t ∈ s.truths, ∀ r ∈ t.2, spE s.last none r.2 = 0
theorem snE_iff {s : Sn} : snE s = 0 ↔ SnOk s := by
  unfold snE
  constructor
  · intro h
    split at h; · cases h
    split at h; · cases h
    split at h; · cases h
    split at h; · cases h
    split at h; · cases h
    split at h; · cases h
    rename_i h1 h2 h3 h4 h5 h6
    have h1 : cntB s = true := by simpa using h1
    unfold cntB at h1
    simp only [Bool.and_eq_true, inZ_iff, decide_eq_true_eq, List.all_eq_true] at h1
    obtain ⟨⟨⟨⟨⟨a1, a2⟩, a3⟩, a4⟩, a5⟩, a6⟩ := h1
    have h2 := not_or.1 h2
    have b1 : inZ s.last 1 60 = true := by simpa using h2.1
    have b2 : s.ways.all (fun w => inZ w.2.2 1 20) = true := by simpa using h2.2
    have b3 : s.looks.all (fun l => l.2.all fun n => inZ n 0 3) = true := by simpa using h3
    have h4 := not_or.1 h4
    have h4' := not_or.1 h4.2
    have c1 : plB s s.home = true := by simpa using h4.1
    have c2 : plB s s.bed = true := by simpa using h4'.1
    have c3 : s.ways.all (fun w => plB s w.1 && plB s w.2.1) = true := by simpa using h4'.2
    unfold plB at c1 c2
    rw [inZ_iff] at b1 c1 c2
    rw [List.all_eq_true] at b2 b3 c3
    have h6 : agnB s = false := by simpa using h6
    unfold agnB at h6
    rw [List.any_eq_false] at h6
    rw [firstE_iff] at h
    refine ⟨a1.1, a1.2, by omega, by omega, by omega, by omega, a5, a6, b1.1, b1.2, fun w hw => inZ_iff.1 (b2 w hw), fun l hl n hn => inZ_iff.1 (List.all_eq_true.1 (b3 l hl) n hn), by omega, by omega, fun w hw => ?_, h5, fun i hi => by simpa using h6 i (List.mem_range.2 hi), fun t ht r hr => ?_⟩
    · have := c3 w hw
      unfold plB at this
      rw [Bool.and_eq_true, inZ_iff, inZ_iff] at this
      omega
    · have := h _ (List.mem_map_of_mem ht)
      unfold trE at this
      rw [firstE_iff] at this
      exact this _ (List.mem_map_of_mem (f := fun r : Sps => spE s.last none r.2) hr)
  · intro o
    have a1 := o.p1; have a2 := o.p2; have a3 := o.t1; have a4 := o.t2; have a5 := o.w1; have a6 := o.k1; have a7 := o.l1; have a8 := o.l2; have a9 := o.h1; have a10 := o.b1
    have c1 : cntB s = true := by
      unfold cntB
      simp only [Bool.and_eq_true, inZ_iff, decide_eq_true_eq, List.all_eq_true]
      exact ⟨⟨⟨⟨⟨⟨a1, a2⟩, by omega, by omega⟩, by omega⟩, by omega⟩, o.kl⟩, o.tl⟩
    have c2 : s.ways.all (fun w => inZ w.2.2 1 20) = true := List.all_eq_true.2 fun w hw => inZ_iff.2 (o.wm w hw)
    have c3 : s.looks.all (fun l => l.2.all fun n => inZ n 0 3) = true := List.all_eq_true.2 fun l hl => List.all_eq_true.2 fun n hn => inZ_iff.2 (o.kn l hl n hn)
    have c4 : s.ways.all (fun w => plB s w.1 && plB s w.2.1) = true := List.all_eq_true.2 fun w hw => by
      have := o.wp w hw
      unfold plB
      rw [Bool.and_eq_true, inZ_iff, inZ_iff]
      omega
    have c5 : agnB s = false := by
      unfold agnB
      rw [List.any_eq_false]
      intro i hi
      rw [o.wa i (List.mem_range.1 hi)]; simp
    rw [if_neg (by rw [c1]; simp), if_neg (by rw [inZ_iff.2 ⟨a7, a8⟩, c2]; simp), if_neg (by rw [c3]; simp), if_neg (by unfold plB; rw [inZ_iff.2 ⟨a9.1, by omega⟩, inZ_iff.2 ⟨a10.1, by omega⟩]; unfold plB at c4; rw [c4]; simp), if_neg o.hb, if_neg (by rw [c5]; simp), firstE_iff]
    intro e he
    obtain ⟨t, ht, rfl⟩ := List.mem_map.1 he
    unfold trE
    rw [firstE_iff]
    intro e he
    obtain ⟨r, hr, rfl⟩ := List.mem_map.1 he
    exact o.sp t ht r hr
theorem spE_ok {last : Int} : ∀ {l : List (Int × Int)} {pv : Option Int}, spE last pv l = 0 → ∀ x ∈ l, 0 ≤ x.1 ∧ x.1 ≤ x.2 ∧ x.2 ≤ last
  | [], _, _, x, hx => by cases hx
  | y :: l, pv, h, x, hx => by
    rw [spE] at h
    split at h
    · cases h
    · rename_i h1
      split at h
      · cases h
      · rcases List.mem_cons.1 hx with rfl | hx
        · have h1 : (inZ x.1 0 last && inZ x.2 x.1 last) = true := by simpa using h1
          rw [Bool.and_eq_true, inZ_iff, inZ_iff] at h1
          omega
        · exact spE_ok h x hx
end GA
end
