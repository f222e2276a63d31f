/- Contracts: a load at work. -/
import Derived.Test.YtlbdomhfcghjdaaS7
namespace GA
open Go Go.RowKit Go.Proofs
set_option pp.deepTerms true
set_option maxRecDepth 8000
set_option linter.unusedVariables false
set_option linter.unusedSimpArgs false

def natA (n : Nat) : AV := .int .i64 n
abbrev nats (xs : List Nat) : List AV := xs.map natA
theorem lowN {n : Nat} (xs : List Nat) : lowL n (nats xs) = true := lowL_map (fun _ => rfl) xs
theorem nats_at {xs : List Nat} {i : Nat} (h : i < xs.length) (b : List AV) : (nats xs ++ b)[i * 1]? = some (.int .i64 (xs.getD i 0 : Nat)) := by
  rw [Nat.mul_one, List.getElem?_append_left (by simpa using h), List.getElem?_map, List.getElem?_eq_getElem h, List.getD_eq_getElem?_getD, List.getElem?_eq_getElem h]; rfl
theorem XArr.nats {xs : List Nat} {i m : Nat} {k : AV → Prop} (h2 : i < m) (hm : m ≤ xs.length) (h : k (.pim (.int .i64 (xs.getD i 0 : Nat) :: (GA.nats xs).drop (i * 1 + 1)))) : XArr (.pim (GA.nats xs)) (i : Int) m 1 k :=
  XArr.at _ (by omega) (by omega) (by have := nats_at (xs := xs) (i := i) (by omega) []; simpa using this) h
theorem XArr.natsA {xs : List Nat} {b : List AV} {i m : Nat} {k : AV → Prop} (h2 : i < m) (hm : m ≤ xs.length) (h : k (.pim (.int .i64 (xs.getD i 0 : Nat) :: (GA.nats xs ++ b).drop (i * 1 + 1)))) : XArr (.pim (GA.nats xs ++ b)) (i : Int) m 1 k :=
  XArr.at _ (by omega) (by omega) (nats_at (xs := xs) (i := i) (by omega) b) h
structure Dk where
  l : Ld
  hv : List Nat
  nd : List Nat
def deskC (d : Dk) : List AV := .int .i64 d.l.bears :: .int .i64 d.l.shrink :: .sl d.l.nls (d.l.sacks.map skA) :: .sl d.l.nla (d.l.apart.map prA) :: .sl d.l.nlw (d.l.wth.map prA) :: (nats d.hv ++ nats d.nd)
theorem lowL_append {n : Nat} (a b : List AV) : lowL n (a ++ b) = (lowL n a && lowL n b) := by
  induction a with | nil => rfl | cons x a ih => simp only [List.cons_append, lowL, ih, Bool.and_assoc]
theorem lowDk {n : Nat} (d : Dk) : lowL n (deskC d) = true := by simp only [deskC, lowL, AV.low, lowSk, lowPr, lowL_append, lowN]; rfl
structure DkOk (d : Dk) : Prop where
  hv : d.hv.length = 512
  nd : d.nd.length = 9
  small : ∀ i, d.nd.getD i 0 < 512
  big : ∀ i, d.hv.getD i 0 < 1000000

theorem whole1_c (d : Dk) (ok : DkOk d) (i set : Nat) (h2 : i < 9) (hs : set < 512) :
    Comp Try.prog 152 [.int .i64 i, .pim [.pim (deskC d)], .pim [.int .i64 set]] (.bool (diff (d.nd.getD i 0) set == 0)) := by
  refine Comp.body (T := tab) (res := [.tmp 4]) tab_ok [] Try.func152 rfl (by kernel_rfl) Try.ntmps152 rfl (by simp only [List.length_cons, List.length_nil]; decide) (by simp only [lowL, AV.low, lowDk]; rfl) ?_; conv => whnf
  have g1 := ok.hv
  have g2 := ok.nd
  apply Walk.drawX tab_ok mixed_ok [] [] (fun _ => []) [_, _, _, _, _, _, _, _, _, _] (by kernel_rfl) rfl
  · skip
    repeat' first
        | ((with_reducible apply XBr.tt); conv => whnf)
        | ((with_reducible apply XBr.ff); conv => whnf)
        | (with_reducible apply XBr.not)
        | ((with_reducible apply XBr.dec) <;> (intro h; first | (exfalso; omega) | ((try simp only [List.length_map] at h); first | (exfalso; omega) | (conv => whnf))))
        | ((with_reducible apply XBr.beq) <;> (intro h; first | (exfalso; omega) | (conv => whnf)))
        | ((with_reducible apply XBr.bne) <;> (intro h; first | (exfalso; omega) | (conv => whnf)))
        | ((with_reducible refine XInt.i64 (by omega) (by omega) ?_); conv => whnf)
        | ((with_reducible refine XHold.mk ?_ ?_); (first | omega | rfl | decide | exact ⟨rfl, by decide, rfl⟩ | exact wideI _ | exact widePr _ | exact wideSk _ | (unfold Room; constructor <;> ((try simp) <;> omega)) | exact ⟨rfl, by simp only [List.length_map], by unfold Room; constructor <;> ((try simp) <;> omega)⟩ | exact ⟨by omega, by omega, by unfold Room; constructor <;> ((try simp) <;> omega)⟩); conv => whnf)
        | ((with_reducible refine XIx.nat ?_ ?_ ?_); omega; (intro _; rfl); conv => whnf)
        | ((with_reducible refine XIx.map ?_ ?_ ?_ ?_); omega; omega; (intro _; rfl); conv => whnf)
        | (with_reducible apply XAnd.mk)
        | ((with_reducible apply Chk.go); conv => whnf)
        | ((with_reducible apply ChkA.go); conv => whnf)
        | ((with_reducible apply ChkF.go); conv => whnf)
        | ((with_reducible apply ChkB.go); conv => whnf)
        | (exact XSame.mk rfl rfl)
        | (exact XSame.mk (by first | rfl | (simp only [List.map_append, List.length_append, List.length_map]; done) | (simp only [List.map_append, List.length_append, List.length_map]; rfl)) (by first | rfl | (simp only [List.map_append]; done) | (simp only [List.map_append]; rfl)))
        | (with_reducible exact trivial)
        | ((with_reducible refine xdrop_app (by rw [List.length_map]; omega) ?_); conv => whnf)
        | ((with_reducible refine XArr.ints (by omega) (by omega) (by omega) ?_); conv => whnf)
        | ((with_reducible refine XArr.intsA (by omega) (by omega) (by omega) ?_); conv => whnf)
        | ((with_reducible refine XArr.nats ?_ ?_ ?_); omega; omega; conv => whnf)
        | ((with_reducible refine XArr.natsA ?_ ?_ ?_); omega; omega; conv => whnf)
        | ((with_reducible apply XArr.pim0); conv => whnf)
        | ((with_reducible apply XArr.pim1); conv => whnf)
        | ((with_reducible refine XArr.ptr ?_ ?_ ?_); omega; omega; conv => whnf)
        | ((with_reducible apply XBr.mk') <;> (intro h; conv => whnf))
  · skip
    repeat' first
        | ((with_reducible apply XBr.tt); conv => whnf)
        | ((with_reducible apply XBr.ff); conv => whnf)
        | (with_reducible apply XBr.not)
        | ((with_reducible apply XBr.dec) <;> (intro h; first | (exfalso; omega) | ((try simp only [List.length_map] at h); first | (exfalso; omega) | (conv => whnf))))
        | ((with_reducible apply XBr.beq) <;> (intro h; first | (exfalso; omega) | (conv => whnf)))
        | ((with_reducible apply XBr.bne) <;> (intro h; first | (exfalso; omega) | (conv => whnf)))
        | ((with_reducible refine XInt.i64 (by omega) (by omega) ?_); conv => whnf)
        | ((with_reducible refine XHold.mk ?_ ?_); (first | omega | rfl | decide | exact ⟨rfl, by decide, rfl⟩ | exact wideI _ | exact widePr _ | exact wideSk _ | (unfold Room; constructor <;> ((try simp) <;> omega)) | exact ⟨rfl, by simp only [List.length_map], by unfold Room; constructor <;> ((try simp) <;> omega)⟩ | exact ⟨by omega, by omega, by unfold Room; constructor <;> ((try simp) <;> omega)⟩); conv => whnf)
        | ((with_reducible refine XIx.nat ?_ ?_ ?_); omega; (intro _; rfl); conv => whnf)
        | ((with_reducible refine XIx.map ?_ ?_ ?_ ?_); omega; omega; (intro _; rfl); conv => whnf)
        | (with_reducible apply XAnd.mk)
        | ((with_reducible apply Chk.go); conv => whnf)
        | ((with_reducible apply ChkA.go); conv => whnf)
        | ((with_reducible apply ChkF.go); conv => whnf)
        | ((with_reducible apply ChkB.go); conv => whnf)
        | (exact XSame.mk rfl rfl)
        | (exact XSame.mk (by first | rfl | (simp only [List.map_append, List.length_append, List.length_map]; done) | (simp only [List.map_append, List.length_append, List.length_map]; rfl)) (by first | rfl | (simp only [List.map_append]; done) | (simp only [List.map_append]; rfl)))
        | (with_reducible exact trivial)
        | ((with_reducible refine xdrop_app (by rw [List.length_map]; omega) ?_); conv => whnf)
        | ((with_reducible refine XArr.ints (by omega) (by omega) (by omega) ?_); conv => whnf)
        | ((with_reducible refine XArr.intsA (by omega) (by omega) (by omega) ?_); conv => whnf)
        | ((with_reducible refine XArr.nats ?_ ?_ ?_); omega; omega; conv => whnf)
        | ((with_reducible refine XArr.natsA ?_ ?_ ?_); omega; omega; conv => whnf)
        | ((with_reducible apply XArr.pim0); conv => whnf)
        | ((with_reducible apply XArr.pim1); conv => whnf)
        | ((with_reducible refine XArr.ptr ?_ ?_ ?_); omega; omega; conv => whnf)
        | ((with_reducible apply XBr.mk') <;> (intro h; conv => whnf))
  · conv => whnf
    repeat' first
        | ((with_reducible apply XBr.tt); conv => whnf)
        | ((with_reducible apply XBr.ff); conv => whnf)
        | (with_reducible apply XBr.not)
        | ((with_reducible apply XBr.dec) <;> (intro h; first | (exfalso; omega) | ((try simp only [List.length_map] at h); first | (exfalso; omega) | (conv => whnf))))
        | ((with_reducible apply XBr.beq) <;> (intro h; first | (exfalso; omega) | (conv => whnf)))
        | ((with_reducible apply XBr.bne) <;> (intro h; first | (exfalso; omega) | (conv => whnf)))
        | ((with_reducible refine XInt.i64 (by omega) (by omega) ?_); conv => whnf)
        | ((with_reducible refine XHold.mk ?_ ?_); (first | omega | rfl | decide | exact ⟨rfl, by decide, rfl⟩ | exact wideI _ | exact widePr _ | exact wideSk _ | (unfold Room; constructor <;> ((try simp) <;> omega)) | exact ⟨rfl, by simp only [List.length_map], by unfold Room; constructor <;> ((try simp) <;> omega)⟩ | exact ⟨by omega, by omega, by unfold Room; constructor <;> ((try simp) <;> omega)⟩); conv => whnf)
        | ((with_reducible refine XIx.nat ?_ ?_ ?_); omega; (intro _; rfl); conv => whnf)
        | ((with_reducible refine XIx.map ?_ ?_ ?_ ?_); omega; omega; (intro _; rfl); conv => whnf)
        | (with_reducible apply XAnd.mk)
        | ((with_reducible apply Chk.go); conv => whnf)
        | ((with_reducible apply ChkA.go); conv => whnf)
        | ((with_reducible apply ChkF.go); conv => whnf)
        | ((with_reducible apply ChkB.go); conv => whnf)
        | (exact XSame.mk rfl rfl)
        | (exact XSame.mk (by first | rfl | (simp only [List.map_append, List.length_append, List.length_map]; done) | (simp only [List.map_append, List.length_append, List.length_map]; rfl)) (by first | rfl | (simp only [List.map_append]; done) | (simp only [List.map_append]; rfl)))
        | (with_reducible exact trivial)
        | ((with_reducible refine xdrop_app (by rw [List.length_map]; omega) ?_); conv => whnf)
        | ((with_reducible refine XArr.ints (by omega) (by omega) (by omega) ?_); conv => whnf)
        | ((with_reducible refine XArr.intsA (by omega) (by omega) (by omega) ?_); conv => whnf)
        | ((with_reducible refine XArr.nats ?_ ?_ ?_); omega; omega; conv => whnf)
        | ((with_reducible refine XArr.natsA ?_ ?_ ?_); omega; omega; conv => whnf)
        | ((with_reducible apply XArr.pim0); conv => whnf)
        | ((with_reducible apply XArr.pim1); conv => whnf)
        | ((with_reducible refine XArr.ptr ?_ ?_ ?_); omega; omega; conv => whnf)
        | ((with_reducible apply XBr.mk') <;> (intro h; conv => whnf))
    refine XOut.bool ?_
    have := ok.small i
    rw [iandn_nat (by omega) (by omega), Bool.eq_iff_iff]; simp
theorem bit_at {set : Nat} {p : Int} (h1 : 0 ≤ p) (h2 : p ≤ 62) (hs : set < 512) : iand .i64 ((set : Int).fdiv (2 ^ min p.toNat IntKind.i64.bits)) 1 = ((set / 2 ^ p.toNat % 2 : Nat) : Int) := by
  obtain ⟨k, rfl⟩ := Int.eq_ofNat_of_zero_le h1
  rw [shr_nat (by omega)]
  have : set / 2 ^ k ≤ set := Nat.div_le_self ..
  have := iand_nat (a := set / 2 ^ k) (b := 1) (by omega) (by omega)
  rw [Nat.and_one_is_mod] at this
  exact this
def inSet (set : Nat) (p : Int) : Bool := set / 2 ^ p.toNat % 2 == 1
theorem whole2_c (p : Int × Int) (set : Nat) (h1 : 0 ≤ p.1) (h2 : p.1 ≤ 62) (h3 : 0 ≤ p.2) (h4 : p.2 ≤ 62) (hs : set < 512) :
    Comp Try.prog 153 [prA p, .pim [.int .i64 set]] (.bool (!inSet set p.1 || !inSet set p.2)) := by
  refine Comp.body (T := tab) (res := [.tmp 3]) tab_ok [] Try.func153 rfl (by kernel_rfl) Try.ntmps153 rfl (by simp only [List.length_cons, List.length_nil]; decide) (by rfl) ?_; conv => whnf
  have e1 := bit_at h1 h2 hs
  have e2 := bit_at h3 h4 hs
  repeat' first
      | ((with_reducible apply XBr.tt); conv => whnf)
      | ((with_reducible apply XBr.ff); conv => whnf)
      | (with_reducible apply XBr.not)
      | ((with_reducible apply XBr.dec) <;> (intro h; first | (exfalso; omega) | ((try simp only [List.length_map] at h); first | (exfalso; omega) | (conv => whnf))))
      | ((with_reducible apply XBr.beq) <;> (intro h; first | (exfalso; omega) | (conv => whnf)))
      | ((with_reducible apply XBr.bne) <;> (intro h; first | (exfalso; omega) | (conv => whnf)))
      | ((with_reducible refine XInt.i64 (by omega) (by omega) ?_); conv => whnf)
      | ((with_reducible refine XHold.mk ?_ ?_); (first | omega | rfl | decide | exact ⟨rfl, by decide, rfl⟩ | exact wideI _ | exact widePr _ | exact wideSk _ | (unfold Room; constructor <;> ((try simp) <;> omega)) | exact ⟨rfl, by simp only [List.length_map], by unfold Room; constructor <;> ((try simp) <;> omega)⟩ | exact ⟨by omega, by omega, by unfold Room; constructor <;> ((try simp) <;> omega)⟩); conv => whnf)
      | ((with_reducible refine XIx.nat ?_ ?_ ?_); omega; (intro _; rfl); conv => whnf)
      | ((with_reducible refine XIx.map ?_ ?_ ?_ ?_); omega; omega; (intro _; rfl); conv => whnf)
      | (with_reducible apply XAnd.mk)
      | ((with_reducible apply Chk.go); conv => whnf)
      | ((with_reducible apply ChkA.go); conv => whnf)
      | ((with_reducible apply ChkF.go); conv => whnf)
      | ((with_reducible apply ChkB.go); conv => whnf)
      | (exact XSame.mk rfl rfl)
      | (exact XSame.mk (by first | rfl | (simp only [List.map_append, List.length_append, List.length_map]; done) | (simp only [List.map_append, List.length_append, List.length_map]; rfl)) (by first | rfl | (simp only [List.map_append]; done) | (simp only [List.map_append]; rfl)))
      | (with_reducible exact trivial)
      | ((with_reducible refine xdrop_app (by rw [List.length_map]; omega) ?_); conv => whnf)
      | ((with_reducible refine XArr.ints (by omega) (by omega) (by omega) ?_); conv => whnf)
      | ((with_reducible refine XArr.intsA (by omega) (by omega) (by omega) ?_); conv => whnf)
      | ((with_reducible refine XArr.nats ?_ ?_ ?_); omega; omega; conv => whnf)
      | ((with_reducible refine XArr.natsA ?_ ?_ ?_); omega; omega; conv => whnf)
      | ((with_reducible apply XArr.pim0); conv => whnf)
      | ((with_reducible apply XArr.pim1); conv => whnf)
      | ((with_reducible refine XArr.ptr ?_ ?_ ?_); omega; omega; conv => whnf)
      | ((with_reducible apply XBr.mk') <;> (intro h; conv => whnf))
  · rw [e1] at h
    refine XOut.bool ?_
    have : inSet set p.1 = false := by unfold inSet; simp; omega
    simp [this]
  · rw [e1] at h
    refine XOut.bool ?_
    rw [e2]
    have : inSet set p.1 = true := by unfold inSet; simp; omega
    have hb : (((set / 2 ^ p.2.toNat % 2 : Nat) : Int) == 0) = !(set / 2 ^ p.2.toNat % 2 == 1) := by
      rcases Nat.mod_two_eq_zero_or_one (set / 2 ^ p.2.toNat) with h | h <;> rw [h] <;> rfl
    rw [this, hb]; simp [inSet]

/-- A set that has each bundle wholly or not at all, and no two sacks that are apart. -/
def wholeB (d : Dk) (set : Nat) : Bool := ((bits set).all fun i => diff (d.nd.getD i.toNat 0) set == 0) && (d.l.apart.all fun p => !inSet set p.1 || !inSet set p.2)
theorem bitsF_bound : ∀ (f i s k : Nat), s < 2 ^ k → ∀ x ∈ bitsF f i s, (i : Int) ≤ x ∧ x < (i + k : Nat)
  | 0, _, _, _, _, x, hx => by simp [bitsF] at hx
  | f + 1, i, s, k, hs, x, hx => by
    unfold bitsF at hx
    split at hx
    · simp at hx
    · rename_i h0
      cases k with
      | zero => simp at hs; omega
      | succ k =>
        have ih := bitsF_bound f (i + 1) (s / 2) k (by rw [Nat.pow_succ] at hs; omega)
        split at hx
        · rcases List.mem_cons.1 hx with rfl | hx
          · omega
          · have := ih x hx; omega
        · have := ih x hx; omega
theorem bits_bound {s : Nat} (hs : s < 512) : ∀ x ∈ bits s, 0 ≤ x ∧ x < 9 := fun x hx => by have := bitsF_bound 62 0 s 9 (by omega) x hx; omega
theorem bits_len (s : Nat) : (bits s).length ≤ 62 := bitsF_length ..
theorem whole_c (d : Dk) (ok : DkOk d) (set : Nat) (hs : set < 512) (ha : d.l.apart.length ≤ 1000) (hp : ∀ p ∈ d.l.apart, 0 ≤ p.1 ∧ p.1 ≤ 62 ∧ 0 ≤ p.2 ∧ p.2 ≤ 62) : Comp Try.prog 135 [.pim (deskC d), .int .i64 set] (.bool (wholeB d set)) := by
  refine Comp.body (T := tab) (res := [.tmp 4]) tab_ok [] Try.func135 rfl (by kernel_rfl) Try.ntmps135 rfl (by simp only [List.length_cons, List.length_nil]; decide) (by simp only [lowL, AV.low, lowDk]; rfl) ?_; conv => whnf
  refine XCall.ret (list_c set (by omega)) ?_
  conv => whnf
  refine XCall.ret (every_int _ (bits set) 152 [.pim [.pim (deskC d)], .pim [.int .i64 set]] (fun i => diff (d.nd.getD i.toNat 0) set == 0) (by simp only [lowL, AV.low, lowDk]; rfl) (by have := bits_len set; omega) fun x hx => ?_) ?_
  · obtain ⟨h1, h2⟩ := bits_bound hs x hx
    obtain ⟨k, rfl⟩ := Int.eq_ofNat_of_zero_le h1
    exact whole1_c d ok k set (by omega) hs
  conv => whnf
  repeat' first
      | ((with_reducible apply XBr.tt); conv => whnf)
      | ((with_reducible apply XBr.ff); conv => whnf)
      | (with_reducible apply XBr.not)
      | ((with_reducible apply XBr.dec) <;> (intro h; first | (exfalso; omega) | ((try simp only [List.length_map] at h); first | (exfalso; omega) | (conv => whnf))))
      | ((with_reducible apply XBr.beq) <;> (intro h; first | (exfalso; omega) | (conv => whnf)))
      | ((with_reducible apply XBr.bne) <;> (intro h; first | (exfalso; omega) | (conv => whnf)))
      | ((with_reducible refine XInt.i64 (by omega) (by omega) ?_); conv => whnf)
      | ((with_reducible refine XHold.mk ?_ ?_); (first | omega | rfl | decide | exact ⟨rfl, by decide, rfl⟩ | exact wideI _ | exact widePr _ | exact wideSk _ | (unfold Room; constructor <;> ((try simp) <;> omega)) | exact ⟨rfl, by simp only [List.length_map], by unfold Room; constructor <;> ((try simp) <;> omega)⟩ | exact ⟨by omega, by omega, by unfold Room; constructor <;> ((try simp) <;> omega)⟩); conv => whnf)
      | ((with_reducible refine XIx.nat ?_ ?_ ?_); omega; (intro _; rfl); conv => whnf)
      | ((with_reducible refine XIx.map ?_ ?_ ?_ ?_); omega; omega; (intro _; rfl); conv => whnf)
      | (with_reducible apply XAnd.mk)
      | ((with_reducible apply Chk.go); conv => whnf)
      | ((with_reducible apply ChkA.go); conv => whnf)
      | ((with_reducible apply ChkF.go); conv => whnf)
      | ((with_reducible apply ChkB.go); conv => whnf)
      | (exact XSame.mk rfl rfl)
      | (exact XSame.mk (by first | rfl | (simp only [List.map_append, List.length_append, List.length_map]; done) | (simp only [List.map_append, List.length_append, List.length_map]; rfl)) (by first | rfl | (simp only [List.map_append]; done) | (simp only [List.map_append]; rfl)))
      | (with_reducible exact trivial)
      | ((with_reducible refine xdrop_app (by rw [List.length_map]; omega) ?_); conv => whnf)
      | ((with_reducible refine XArr.ints (by omega) (by omega) (by omega) ?_); conv => whnf)
      | ((with_reducible refine XArr.intsA (by omega) (by omega) (by omega) ?_); conv => whnf)
      | ((with_reducible refine XArr.nats ?_ ?_ ?_); omega; omega; conv => whnf)
      | ((with_reducible refine XArr.natsA ?_ ?_ ?_); omega; omega; conv => whnf)
      | ((with_reducible apply XArr.pim0); conv => whnf)
      | ((with_reducible apply XArr.pim1); conv => whnf)
      | ((with_reducible refine XArr.ptr ?_ ?_ ?_); omega; omega; conv => whnf)
      | ((with_reducible apply XBr.mk') <;> (intro h; conv => whnf))
  · refine XCall.ret (every_pr _ d.l.apart 153 [.pim [.int .i64 set]] (fun p => !inSet set p.1 || !inSet set p.2) rfl (by omega) fun p hm => ?_) ?_
    · obtain ⟨h1, h2, h3, h4⟩ := hp p hm
      exact whole2_c p set h1 h2 h3 h4 hs
    conv => whnf
    repeat' first
        | ((with_reducible apply XBr.tt); conv => whnf)
        | ((with_reducible apply XBr.ff); conv => whnf)
        | (with_reducible apply XBr.not)
        | ((with_reducible apply XBr.dec) <;> (intro h; first | (exfalso; omega) | ((try simp only [List.length_map] at h); first | (exfalso; omega) | (conv => whnf))))
        | ((with_reducible apply XBr.beq) <;> (intro h; first | (exfalso; omega) | (conv => whnf)))
        | ((with_reducible apply XBr.bne) <;> (intro h; first | (exfalso; omega) | (conv => whnf)))
        | ((with_reducible refine XInt.i64 (by omega) (by omega) ?_); conv => whnf)
        | ((with_reducible refine XHold.mk ?_ ?_); (first | omega | rfl | decide | exact ⟨rfl, by decide, rfl⟩ | exact wideI _ | exact widePr _ | exact wideSk _ | (unfold Room; constructor <;> ((try simp) <;> omega)) | exact ⟨rfl, by simp only [List.length_map], by unfold Room; constructor <;> ((try simp) <;> omega)⟩ | exact ⟨by omega, by omega, by unfold Room; constructor <;> ((try simp) <;> omega)⟩); conv => whnf)
        | ((with_reducible refine XIx.nat ?_ ?_ ?_); omega; (intro _; rfl); conv => whnf)
        | ((with_reducible refine XIx.map ?_ ?_ ?_ ?_); omega; omega; (intro _; rfl); conv => whnf)
        | (with_reducible apply XAnd.mk)
        | ((with_reducible apply Chk.go); conv => whnf)
        | ((with_reducible apply ChkA.go); conv => whnf)
        | ((with_reducible apply ChkF.go); conv => whnf)
        | ((with_reducible apply ChkB.go); conv => whnf)
        | (exact XSame.mk rfl rfl)
        | (exact XSame.mk (by first | rfl | (simp only [List.map_append, List.length_append, List.length_map]; done) | (simp only [List.map_append, List.length_append, List.length_map]; rfl)) (by first | rfl | (simp only [List.map_append]; done) | (simp only [List.map_append]; rfl)))
        | (with_reducible exact trivial)
        | ((with_reducible refine xdrop_app (by rw [List.length_map]; omega) ?_); conv => whnf)
        | ((with_reducible refine XArr.ints (by omega) (by omega) (by omega) ?_); conv => whnf)
        | ((with_reducible refine XArr.intsA (by omega) (by omega) (by omega) ?_); conv => whnf)
        | ((with_reducible refine XArr.nats ?_ ?_ ?_); omega; omega; conv => whnf)
        | ((with_reducible refine XArr.natsA ?_ ?_ ?_); omega; omega; conv => whnf)
        | ((with_reducible apply XArr.pim0); conv => whnf)
        | ((with_reducible apply XArr.pim1); conv => whnf)
        | ((with_reducible refine XArr.ptr ?_ ?_ ?_); omega; omega; conv => whnf)
        | ((with_reducible apply XBr.mk') <;> (intro h; conv => whnf))
    refine XOut.bool ?_
    unfold wholeB; rw [h]; simp
  · refine XOut.bool ?_
    unfold wholeB; rw [h]; simp
end GA
