/- Part 5 of a proof: D1, D29, D2, D3, D4, D5, D6, D7, D8, D9, D10, D11, Abs37, D13, D19, D30, D17, D48, D31. -/
import Derived.Test.YtfpggfdojnnaiaaP4
section
namespace GA
open Go Go.RowKit Go.Proofs
set_option pp.deepTerms true
set_option maxRecDepth 8000
set_option linter.unusedVariables false
set_option linter.unusedSimpArgs false

theorem ints_len (xs : List Int) : (ints xs).length = xs.length := List.length_map _
theorem slA_low {n : Nat} (xs : List Int) : (slA xs).low n = true := lowI xs
theorem mput_mem {q : Int} {v : AV} : ∀ {es : List (Int × AV)}, (es.map (·.1)).Nodup → ∀ p ∈ mput q v es, p = (q, v) ∨ (p ∈ es ∧ p.1 ≠ q)
  | [], _, p, hp => by simp [mput] at hp; exact .inl hp
  | (m, u) :: l, hn, p, hp => by
    simp only [List.map_cons, List.nodup_cons] at hn
    have hp' : p ∈ (if m = q then (m, v) :: l else (m, u) :: mput q v l) := hp
    split at hp'
    · rename_i e; subst e
      rcases List.mem_cons.1 hp' with rfl | h
      · exact .inl rfl
      · refine .inr ⟨List.mem_cons_of_mem _ h, fun e => hn.1 ?_⟩
        rw [← e]; exact List.mem_map.2 ⟨p, h, rfl⟩
    · rename_i e
      rcases List.mem_cons.1 hp' with rfl | h
      · exact .inr ⟨List.mem_cons_self, e⟩
      · rcases mput_mem hn.2 p h with h | ⟨h1, h2⟩
        · exact .inl h
        · exact .inr ⟨List.mem_cons_of_mem _ h1, h2⟩
theorem esS_nd (b : Bd) : ∀ j, ((esS b j).map (·.1)).Nodup
  | 0 => by simp [esS]
  | j + 1 => (mput_keys _ _ _ (esS_nd b j)).1
theorem esS_vals (b : Bd) (hm : ∀ s ∈ b.surveys, 0 ≤ s.m ∧ s.m ≤ 10) : ∀ j, j ≤ b.surveys.length → ∀ p ∈ esS b j, 0 ≤ p.1 ∧ p.1 ≤ 10 ∧ p.2 = .gr (2 + p.1.toNat) (rowS b j p.1.toNat).length
  | 0, _, p, hp => by simp [esS] at hp
  | j + 1, hj, p, hp => by
    have h0 := hm _ (getD_mem (xs := b.surveys) (i := j) (d := default) (by omega))
    rcases mput_mem (esS_nd b j) p hp with rfl | ⟨h1, h2⟩
    · exact ⟨h0.1, h0.2, rfl⟩
    · obtain ⟨h3, h4, h5⟩ := esS_vals b hm j (by omega) p h1
      refine ⟨h3, h4, ?_⟩
      rw [h5, rowS_next, if_neg (by omega)]
def rowT (b : Bd) (k : Nat) : List Int := rowS b b.surveys.length k
def keyS (b : Bd) : List Int := (esS b b.surveys.length).map (·.1)
def rowsS (b : Bd) : List AV := (keyS b).map fun k => slA (rowT b k.toNat)
def dskC (b : Bd) : List AV := bedC b ++ [.im (keyS b) (rowsS b)]
def dskA (b : Bd) : AV := .pim (dskC b)
theorem rowsS_low {n : Nat} (b : Bd) : lowL n (rowsS b) = true := lowL_map (fun _ => slA_low _) _
theorem lowDk1 {n : Nat} (b : Bd) : lowL n (dskC b) = true := by simp only [dskC, bedC, List.cons_append, List.nil_append, lowL, AV.low, lowMo, lowSu, rowsS_low]; rfl
theorem dskL {n : Nat} (b : Bd) : (dskA b).low n = true := lowDk1 b
theorem mget_zip (f : Int → AV) (n : Int) : ∀ es : List (Int × AV), mget n ((es.map (·.1)).zip ((es.map (·.1)).map f)) = (mget n es).map fun _ => f n
  | [] => rfl
  | (m, u) :: l => by
    show (if m = n then some (f m) else mget n _) = (if m = n then some u else mget n l).map _
    by_cases h : m = n
    · rw [if_pos h, if_pos h, h]; rfl
    · rw [if_neg h, if_neg h]; exact mget_zip f n l
theorem look_desk {b : Bd} {H : List Blk} {K : AV → Prop} (hm : ∀ s ∈ b.surveys, 0 ≤ s.m) (k : Nat) (h : K (slA (rowT b k))) : XGetM H (.sl true []) false (k : Int) ((keyS b).zip (rowsS b)) K := by
  refine XGetM.mk' (v := if (rowT b k).isEmpty = true then none else some (slA (rowT b k))) ?_ ?_
  · show mget (k : Int) (((esS b b.surveys.length).map (·.1)).zip (((esS b b.surveys.length).map (·.1)).map fun k => slA (rowT b k.toNat))) = _
    rw [mget_zip, esS_get b hm _ (Nat.le_refl _) k, Int.toNat_natCast]
    show Option.map _ (if (rowT b k).isEmpty = true then _ else _) = _
    split <;> rfl
  · split
    · rename_i e
      have e' : rowT b k = [] := by simpa using e
      rw [e'] at h; exact h
    · exact h
structure BdOk (b : Bd) : Prop extends BedOk b where
  s1 : b.surveys.length ≤ 8
  su : ∀ s ∈ b.surveys, 0 ≤ s.m ∧ s.m ≤ b.months.length ∧ 0 ≤ s.lo ∧ s.lo ≤ s.hi ∧ s.hi ≤ b.room
theorem BdOk.sm {b : Bd} (o : BdOk b) : ∀ s ∈ b.surveys, 0 ≤ s.m ∧ s.m ≤ 10 := fun s hs => by have := o.su s hs; have := o.m2; omega
theorem bedE_iff (b : Bd) : bedE b = 0 ↔ BdOk b := by
  unfold bedE
  constructor
  · intro h
    split at h; · cases h
    split at h; · cases h
    split at h; · cases h
    split at h; · cases h
    split at h; · cases h
    rename_i h1 h2 h3 h4 h5
    simp only [Bool.not_eq_false, not_or, inZ_iff, List.all_eq_true, moR, withinB, Bool.and_eq_true, suR1, suR2] at h1 h2 h3 h4 h5
    exact ⟨⟨h1.1, h1.2, by omega, by omega, h3.1.1, h3.1.2, h3.2.1.1, h3.2.1.2, fun m hm => by have := h3.2.2 m hm; omega⟩, by omega, fun s hs => by have := h4 s hs; have := h5 s hs; omega⟩
  · intro o
    have h1 := o.r1; have h2 := o.r2; have h3 := o.m1; have h4 := o.m2; have h5 := o.f1; have h6 := o.f2; have h7 := o.u1; have h8 := o.u2; have h9 := o.s1
    have hm : b.months.all (moR b) = true := List.all_eq_true.2 fun m hm => by
      have := o.mo m hm
      simp only [moR, withinB, Bool.and_eq_true, inZ_iff]; omega
    have hs1 : b.surveys.all (suR1 b) = true := List.all_eq_true.2 fun m hm => by
      have := o.su m hm
      simp only [suR1, withinB, Bool.and_eq_true, inZ_iff]; omega
    have hs2 : b.surveys.all (suR2 b) = true := List.all_eq_true.2 fun m hm => by
      have := o.su m hm
      simp only [suR2, inZ_iff]; omega
    rw [if_neg (by rw [inZ_iff.2 ⟨h1, h2⟩]; simp), if_neg (by rw [inZ_iff.2 ⟨by omega, by omega⟩]; simp; omega), if_neg (by rw [inZ_iff.2 ⟨h5, h6⟩, inZ_iff.2 ⟨h7, h8⟩, hm]; simp), if_neg (by rw [hs1]; simp), if_neg (by rw [hs2]; simp)]
theorem bedOne (b : Bd) : ∀ x ∈ bedC b, x.one = true := by simp [bedC, AV.one]
theorem dskOne (b : Bd) : ∀ x ∈ dskC b, x.one = true := by simp [dskC, bedC, AV.one]
theorem frozMap (P : Program) {H : List Blk} (f : Int → AV) : ∀ (es : List (Int × AV)), (∀ p ∈ es, Froz P H p.2 (f p.1)) → FrozL P H (es.map (·.2)) ((es.map (·.1)).map f)
  | [], _ => .nil
  | p :: l, h => .cons (h p List.mem_cons_self) (frozMap P f l fun q hq => h q (List.mem_cons_of_mem _ hq))
theorem FrozL.bedD {P : Program} {H : List Blk} {b : Bd} {x y : AV} (h : Froz P H x y) : FrozL P H (bedC b ++ [x]) (bedC b ++ [y]) :=
  .cons (.low rfl) (.cons (.low rfl) (.cons (.low rfl) (.cons (.low (lowMo _)) (.cons (.low (lowSu _)) (.cons h .nil)))))
theorem bOpened_c (b : Bd) (ok : BdOk b) : Comp Try.prog 116 [bedA b] (.tup [dskA b, .int .i64 0]) := by
  refine (bedOpenedS_c b ((bedE_iff b).2 ok) ok.m2 ok.s1 ok.sm).comp ?_
  refine Froz.tup (.cons (Froz.ptr rfl (dskOne b) ?_) (.cons (.low rfl) .nil))
  refine FrozL.bedD (Froz.mp rfl (frozMap _ (fun k => slA (rowT b k.toNat)) _ fun p hp => ?_))
  obtain ⟨h1, h2, h3⟩ := esS_vals b ok.sm _ (Nat.le_refl _) p hp
  rw [h3]
  obtain ⟨k, hk, hk2⟩ : ∃ k : Nat, k ≤ 10 ∧ p.1.toNat = k := ⟨p.1.toNat, by omega, rfl⟩
  rw [hk2]
  have hkk : k = 0 ∨ k = 1 ∨ k = 2 ∨ k = 3 ∨ k = 4 ∨ k = 5 ∨ k = 6 ∨ k = 7 ∨ k = 8 ∨ k = 9 ∨ k = 10 := by omega
  rcases hkk with rfl | rfl | rfl | rfl | rfl | rfl | rfl | rfl | rfl | rfl | rfl <;> exact Froz.grow rfl (List.length_map _) (lowI _)
theorem bOpenedE_c (b : Bd) (h1 : b.months.length ≤ 100000) (h2 : b.surveys.length ≤ 100000) (hE : bedE b ≠ 0) : Comp Try.prog 116 [bedA b] (.tup [.nilp, .int .i64 (bedE b)]) := by
  have hc := bedCheck_c b h1 h2
  generalize bedE b = e at hc hE
  refine Comp.body (T := tab) (res := [.tmp 2, .tmp 3]) tab_ok [] Try.func116 rfl (by kernel_rfl) Try.ntmps116 rfl (by simp only [List.length_cons, List.length_nil]; decide) (by simp only [lowL, bedL]; rfl) ?_; conv => whnf
  repeat' first | ((with_reducible apply XBr.bne) <;> (intro h; first | (exfalso; omega) | (conv => whnf))) | ((refine XCall.ret hc ?_); conv => whnf) | fail
  exact ⟨.low rfl⟩
theorem bMonth_c (b : Bd) (m : Int) (h : b.months.length ≤ 100000) : Comp Try.prog 117 [bedA b, .int .i64 m] (.bool (inZ m 0 ((b.months.length : Int) - 1))) := by
  have e1 : ((b.months.map moA).length : Int) = b.months.length := by rw [List.length_map]
  refine Comp.body (T := tab) (res := [.tmp 4]) tab_ok [] Try.func117 rfl (by kernel_rfl) Try.ntmps117 rfl (by simp only [List.length_cons, List.length_nil]; decide) (by simp only [lowL, bedL, AV.low]; rfl) ?_; conv => whnf
  repeat' first | ((first | (with_reducible refine XInt.i64 (by omega) (by omega) ?_) | (refine XCall.ret (bedIn_c _ _ _) ?_)); conv => whnf) | fail
  exact XOut.bool (by rw [e1])
theorem bBest_c (m : Mo) : Comp Try.prog 127 [moA m] (chA m.ph m.tl) := by
  refine Comp.body (T := tab) (res := [.cell 2 56]) tab_ok [] Try.func127 rfl (by kernel_rfl) Try.ntmps127 rfl (by simp only [List.length_cons, List.length_nil]; decide) (by rfl) ?_; conv => whnf
  skip
  exact ⟨.low rfl⟩
def chanceB (m : Mo) (sp st : Int) : Bool := inZ sp m.pl m.ph && inZ st m.tl m.th
theorem bChance_c (m : Mo) (sp st : Int) : Comp Try.prog 118 [moA m, chA sp st] (.bool (chanceB m sp st)) := by
  refine Comp.body (T := tab) (res := [.tmp 4]) tab_ok [] Try.func118 rfl (by kernel_rfl) Try.ntmps118 rfl (by simp only [List.length_cons, List.length_nil]; decide) (by rfl) ?_; conv => whnf
  repeat' first | ((first | (with_reducible apply XBr.tt) | (with_reducible apply XBr.ff) | (refine XCall.ret (bedIn_c _ _ _) ?_)); conv => whnf) | ((with_reducible apply XBr.mk') <;> (intro h; conv => whnf)) | fail
  all_goals exact XOut.bool (by unfold chanceB; simp [*])
def moC (m : Mo) : List AV := [.int .i64 m.g, .int .i64 m.r, .int .i64 m.pl, .int .i64 m.ph, .int .i64 m.tl, .int .i64 m.th]
def moB (b : Bd) (m : Nat) : Mo := b.months.getD m default
def hiR (b : Bd) (m n : Nat) : Int := grossR b.room (moB b m).g n (moB b m).ph (moB b m).tl - (moB b m).r
def loR (b : Bd) (m n : Nat) : Nat := (max 0 (lieR b m n - (moB b m).r)).toNat
def lvF (c : Nat) (hi : Int) : List Nat := List.range' c (hi + 1 - c).toNat
theorem lvF_cons {c : Nat} {hi : Int} (h : (c : Int) ≤ hi) : lvF c hi = c :: lvF (c + 1) hi := by
  unfold lvF
  obtain ⟨d, hd⟩ : ∃ d : Nat, (hi + 1 - c).toNat = d + 1 := ⟨(hi - c).toNat, by omega⟩
  rw [hd, List.range'_succ]
  congr 1
  congr 1
  omega
theorem lvF_nil {c : Nat} {hi : Int} (h : hi < c) : lvF c hi = [] := by
  unfold lvF
  rw [show (hi + 1 - c).toNat = 0 by omega]; rfl
theorem mem_lvF {c k : Nat} {hi : Int} : k ∈ lvF c hi ↔ c ≤ k ∧ (k : Int) ≤ hi := by
  unfold lvF
  rw [List.mem_range'_1]; omega
def lvL (b : Bd) (m n : Nat) : List Nat := lvF (loR b m n) (hiR b m n)
theorem BedOk.mo' {b : Bd} (o : BedOk b) {m : Nat} (h : m < b.months.length) : 0 ≤ (moB b m).g ∧ (moB b m).g ≤ 100 ∧ 0 ≤ (moB b m).r ∧ (moB b m).r ≤ b.room ∧ 0 ≤ (moB b m).pl ∧ (moB b m).pl ≤ (moB b m).ph ∧ (moB b m).ph ≤ 60 ∧ 0 ≤ (moB b m).tl ∧ (moB b m).tl ≤ (moB b m).th ∧ (moB b m).th ≤ 60 := o.mo _ (getD_mem (d := default) h)
theorem hiR_b {b : Bd} (o : BedOk b) {m n : Nat} (h : m < b.months.length) : -b.room ≤ hiR b m n ∧ hiR b m n ≤ b.room := by
  have hm := o.mo' h
  have := o.r1
  have := grossR_le (room := b.room) (g := (moB b m).g) (a := n) (sp := (moB b m).ph) (st := (moB b m).tl) (by omega) (by omega)
  unfold hiR; omega
theorem loR_b {b : Bd} (o : BedOk b) {m n : Nat} (h : m < b.months.length) : (loR b m n : Int) ≤ b.room := by
  have hm := o.mo' h
  have := lieR_b o (j := m) (n := n) h
  unfold loR; omega
theorem moOne (m : Mo) : ∀ x ∈ moC m, x.one = true := by simp [moC, AV.one]
theorem bLeaves_c (b : Bd) (ok : BedOk b) (m n : Nat) (h : m < b.months.length) : Comp Try.prog 120 [dskA b, natA m, natA n] (.fn 177 [.pim [dskA b], .pim [natA m], .pim [natA n], .pim (moC (moB b m))]) := by
  have m2 := ok.m2
  refine Comp.body (T := tab) (res := [.tmp 6]) tab_ok [] Try.func120 rfl (by kernel_rfl) Try.ntmps120 rfl (by simp only [List.length_cons, List.length_nil]; decide) (by simp only [lowL, dskL, AV.low]; rfl) ?_; conv => whnf
  repeat' first | (((with_reducible refine XIx.nat ?_ ?_ ?_); omega; (intro _; rfl)); conv => whnf) | (with_reducible apply XAnd.mk) | ((first | (with_reducible apply Chk.go) | (with_reducible apply ChkA.go) | (with_reducible apply ChkF.go) | (with_reducible apply ChkB.go)); conv => whnf) | (exact XSame.mk rfl rfl) | (with_reducible exact trivial) | (apply Walk.drawN (id := 1) tab_ok mixed_ok [] [8, 9] (hsC [_, _, _]) [_, _, _, _, _, _, _, _, _, _] (by kernel_rfl) rfl) | ((with_reducible apply XNext.mk); conv => whnf) | fail
  exact ⟨Froz.fn (.cons (.low (by simp only [AV.low, lowL, dskL]; rfl)) (.cons (.low rfl) (.cons (.low rfl) (.cons (Froz.ptr rfl (moOne _) (.low rfl)) .nil))))⟩
theorem bLeaves1_c (b : Bd) (ok : BedOk b) (m n i : Nat) (hm : m < b.months.length) (hn : (n : Int) ≤ b.room) (H : List Blk) (K : List Blk → Prop) (hK : IterL Try.prog i K (lvL b m n) H) :
    XCall Try.prog 177 [.yld i, .pim [dskA b], .pim [natA m], .pim [natA n], .pim (moC (moB b m))] H fun _ H' => K H' := by
  have hr1 := ok.r1
  have hr2 := ok.r2
  have hm2 := ok.m2
  have hmo := ok.mo' hm
  have hlb := lieR_b ok (j := m) (n := n) hm
  have hhb := hiR_b ok (m := m) (n := n) hm
  have hc1 := gross_c b m n (moB b m).pl (moB b m).th hm (by omega) (by omega) hmo.1 hmo.2.1 (by omega) (by omega) (by omega) (by omega) (by omega) (by omega)
  have hc2 := gross_c b m n (moB b m).ph (moB b m).tl hm (by omega) (by omega) hmo.1 hmo.2.1 (by omega) (by omega) (by omega) (by omega) (by omega) (by omega)
  change Comp Try.prog _ _ (.int .i64 (lieR b m n)) at hc1
  change Comp Try.prog _ _ (.int .i64 (grossR b.room (moB b m).g n (moB b m).ph (moB b m).tl)) at hc2
  have hhi : grossR b.room (moB b m).g n (moB b m).ph (moB b m).tl = hiR b m n + (moB b m).r := by unfold hiR; omega
  have hgr := fun x => bedGreatest_c 0 false [x] (by simp)
  rw [hhi] at hc2
  refine XCall.inl (T := tab) (res := []) tab_ok [] Try.func177 rfl (by kernel_rfl) Try.ntmps177 rfl (by simp only [List.length_append, List.length_cons, List.length_nil]; decide) ?_; conv => whnf
  repeat' first | ((with_reducible refine XInt.i64 (by omega) (by omega) ?_); conv => whnf) | ((with_reducible refine XHold.mk ?_ ?_); (first | omega | rfl | decide | exact ⟨rfl, by decide, rfl⟩ | exact wideI _ | exact widePr _ | exact wideSk _ | (unfold Room; constructor <;> ((try simp) <;> omega)) | exact ⟨rfl, by simp only [List.length_map], by unfold Room; constructor <;> ((try simp) <;> omega)⟩ | exact ⟨by omega, by omega, by unfold Room; constructor <;> ((try simp) <;> omega)⟩); conv => whnf) | (with_reducible apply XAnd.mk) | ((first | (with_reducible apply Chk.go) | (with_reducible apply ChkA.go) | (with_reducible apply ChkF.go) | (with_reducible apply ChkB.go)); conv => whnf) | (exact XSame.mk rfl rfl) | (with_reducible exact trivial) | (apply Walk.drawN (id := 0) tab_ok mixed_ok [] [] (hsU _) [_, _, _, _, _, _, _, _, _, _, _, _, _, _, _] (by kernel_rfl) rfl) | ((first | (with_reducible apply XNext.mk) | (refine XCall.ret (worst_c (moB b m)) ?_) | (refine XCall.ret hc1 ?_) | (refine XCall.ret (hgr _) ?_)); conv => whnf) | fail
  refine Walk.loopK tab_ok [] [(0, _), (1, _), (2, _), (3, _), (4, _)] ⟨rfl, rfl, rfl, rfl, rfl, trivial⟩ (fun g : Nat × List Blk => (g.1 : Int) ≤ b.room + 1 ∧ IterL Try.prog i K (lvF g.1 (hiR b m n)) g.2) (fun g => [(6, natA g.1)]) (fun g => g.2) (fun g => (b.room + 1).toNat - g.1) (loR b m n, H) ⟨by have := loR_b ok (n := n) hm; dsimp only; omega, hK⟩ rfl ⟨?_, trivial⟩ ?_
  · refine congrArg (fun z => some (AV.int .i64 z)) ?_
    unfold loR
    rw [Int.toNat_of_nonneg (by omega)]; rfl
  rintro ⟨c, H'⟩ ⟨h1, h2⟩
  dsimp only at h1 h2 ⊢
  conv => whnf
  repeat' first | ((with_reducible apply XBr.dec) <;> (intro h; first | (exfalso; omega) | ((try simp only [List.length_map] at h); first | (exfalso; omega) | (conv => whnf)))) | ((with_reducible refine XInt.i64 (by omega) (by omega) ?_); conv => whnf) | (with_reducible apply XAnd.mk) | ((first | (with_reducible apply Chk.go) | (with_reducible apply ChkA.go) | (with_reducible apply ChkF.go) | (with_reducible apply ChkB.go)); conv => whnf) | (exact XSame.mk rfl rfl) | (with_reducible exact trivial) | (apply Walk.drawN (id := 1) tab_ok mixed_ok [] [] (hsU _) [_, _, _, _, _, _, _, _, _, _, _, _, _, _] (by kernel_rfl) rfl) | ((first | (with_reducible apply XNext.mk) | (refine XCall.ret (bBest_c (moB b m)) ?_) | (refine XCall.ret hc2 ?_)); conv => whnf) | fail
  · rw [lvF_cons (by omega)] at h2
    refine ⟨yieldMono h2.o ?_⟩
    rintro r H'' (⟨rfl, h5⟩ | ⟨rfl, h5⟩)
    · conv => whnf
      repeat' first | ((with_reducible apply XBr.tt); conv => whnf) | (with_reducible apply XBr.not) | ((with_reducible refine XInt.i64 (by omega) (by omega) ?_); conv => whnf) | fail
      exact XAgain.go (c + 1, H'') ⟨by dsimp only; omega, h5⟩ (by dsimp only; omega) rfl ⟨rfl, rfl, rfl, rfl, rfl, rfl, trivial⟩
    · conv => whnf
      repeat' first | ((with_reducible apply XBr.ff); conv => whnf) | (with_reducible apply XBr.not) | fail
      exact h5
  · rw [lvF_nil (by omega)] at h2
    exact h2
end GA
end

section
namespace GA
open Go Go.RowKit Go.ChangeShapes Go.WideShapes Go.ChangeAt Go.Proofs Go.Proofs.Ytfpggfdojnnaiaa
set_option linter.unusedVariables false
set_option linter.unusedSimpArgs false
set_option maxRecDepth 8000

theorem oSpan : Opens Try.prog 58 2 (fun s : Int × Int => (prA s).cells) :=
  (Opens.struct Try.underlying58 (by kernel_rfl) (.cons oInt rfl (.cons oInt rfl .nil))).as (fun p => ⟨(p.1.1, p.2.1.1), rfl⟩) (fun _ => rfl)
theorem oMonth : Opens Try.prog 60 6 (fun m : Mo => (moA m).cells) :=
  (Opens.struct Try.underlying60 (by kernel_rfl) (.cons oInt rfl (.cons oInt rfl (.cons oSpan rfl (.cons oSpan rfl .nil))))).as (fun p => ⟨⟨p.1.1, p.2.1.1, p.2.2.1.1, p.2.2.1.2, p.2.2.2.1.1, p.2.2.2.1.2⟩, rfl⟩) (fun _ => rfl)
theorem oMonths : Opens Try.prog 23 1 (fun p : Bool × List Mo => [AV.sl p.1 (p.2.map moA)]) :=
  Opens.slice (t := 23) (by kernel_rfl) (by kernel_rfl) oMonth (by decide) moA (fun _ => rfl) |>.as (fun p => ⟨p.1, rfl⟩) (fun _ => rfl)
theorem oSurvey : Opens Try.prog 122 3 (fun m : Su => (suA m).cells) :=
  (Opens.struct Try.underlying122 (by kernel_rfl) (.cons oInt rfl (.cons oSpan rfl .nil))).as (fun p => ⟨⟨p.1.1, p.2.1.1, p.2.1.2⟩, rfl⟩) (fun _ => rfl)
theorem oSurveys : Opens Try.prog 24 1 (fun p : Bool × List Su => [AV.sl p.1 (p.2.map suA)]) :=
  Opens.slice (t := 24) (by kernel_rfl) (by kernel_rfl) oSurvey (by decide) suA (fun _ => rfl) |>.as (fun p => ⟨p.1, rfl⟩) (fun _ => rfl)
theorem oBed : Opens Try.prog 26 5 bedC :=
  (Opens.struct Try.underlying26 (by kernel_rfl) (.cons oInt rfl (.cons oInt rfl (.cons oInt rfl (.cons oMonths rfl (.cons oSurveys rfl .nil)))))).as
    (fun p => ⟨⟨p.1.1, p.2.1.1, p.2.2.1.1, p.2.2.2.1.1, p.2.2.2.1.2, p.2.2.2.2.1.1, p.2.2.2.2.1.2⟩, rfl⟩) (fun _ => rfl)
end GA
end

section
namespace GA
open Go Go.RowKit Go.Proofs
set_option pp.deepTerms true
set_option maxRecDepth 8000
set_option linter.unusedVariables false
set_option linter.unusedSimpArgs false

structure BdK (b : Bd) : Prop extends BedOk b where
  s9 : b.surveys.length ≤ 9
  su : ∀ s ∈ b.surveys, 0 ≤ s.m ∧ s.m ≤ b.months.length ∧ 0 ≤ s.lo ∧ s.lo ≤ s.hi ∧ s.hi ≤ b.room
theorem BdOk.k {b : Bd} (o : BdOk b) : BdK b := ⟨o.toBedOk, by have := o.s1; omega, o.su⟩
instance {b : Bd} : Coe (BdOk b) (BdK b) := ⟨BdOk.k⟩
theorem bEvery1_int (x : Int) (g : FuncId) (caps : List AV) (p : Int → Bool) (hl : lowL 0 caps = true) (hp : Comp Try.prog g (.int .i64 x :: caps) (.bool (p x))) :
    Comp Try.prog 202 [.int .i64 x, .pim [.fn g caps]] (.bool (!p x)) := by
  refine Comp.body (T := tab) (res := [.tmp 3]) tab_ok [] Try.func202 rfl (by kernel_rfl) Try.ntmps202 rfl (by simp only [List.length_cons, List.length_nil]; decide) (by simp only [lowL, AV.low, hl]; rfl) ?_; conv => whnf
  refine XCall.ret hp ?_
  conv => whnf
  exact XOut.bool rfl
theorem bEvery_int (nl : Bool) (xs : List Int) (g : FuncId) (caps : List AV) (p : Int → Bool) (hl : lowL 0 caps = true) (hx : xs.length ≤ 100000) (hp : ∀ x ∈ xs, Comp Try.prog g (.int .i64 x :: caps) (.bool (p x))) :
    Comp Try.prog 167 [.sl nl (ints xs), .fn g caps] (.bool (xs.all p)) := by
  refine Comp.body (T := tab) (res := [.tmp 4]) tab_ok [] Try.func167 rfl (by kernel_rfl) Try.ntmps167 rfl (by simp only [List.length_cons, List.length_nil]; decide) (by simp only [lowL, AV.low, lowI, hl]; rfl) ?_; conv => whnf
  refine XCall.ret (contf_int nl xs 202 [.pim [.fn g caps]] (fun x => !p x) (by simp only [lowL, AV.low, hl]; rfl) hx fun x hm => bEvery1_int x g caps p hl (hp x hm)) ?_
  conv => whnf
  refine XOut.bool ?_
  rw [List.not_any_eq_all_not]; simp
theorem bEvery1_bf (x : Int) (g : FuncId) (fs : List AV) (p : Int → Bool) (hl : lowL 0 fs = true) (hp : Comp Try.prog g (fs ++ [.int .i64 x]) (.bool (p x))) :
    Comp Try.prog 202 [.int .i64 x, .pim [.bf g fs]] (.bool (!p x)) := by
  refine Comp.body (T := tab) (res := [.tmp 3]) tab_ok [] Try.func202 rfl (by kernel_rfl) Try.ntmps202 rfl (by simp only [List.length_cons, List.length_nil]; decide) (by simp only [lowL, AV.low, hl]; rfl) ?_; conv => whnf
  refine XCall.ret hp ?_
  conv => whnf
  exact XOut.bool rfl
theorem bEvery_bf (nl : Bool) (xs : List Int) (g : FuncId) (fs : List AV) (p : Int → Bool) (hl : lowL 0 fs = true) (hx : xs.length ≤ 100000) (hp : ∀ x ∈ xs, Comp Try.prog g (fs ++ [.int .i64 x]) (.bool (p x))) :
    Comp Try.prog 167 [.sl nl (ints xs), .bf g fs] (.bool (xs.all p)) := by
  refine Comp.body (T := tab) (res := [.tmp 4]) tab_ok [] Try.func167 rfl (by kernel_rfl) Try.ntmps167 rfl (by simp only [List.length_cons, List.length_nil]; decide) (by simp only [lowL, AV.low, lowI, hl]; rfl) ?_; conv => whnf
  refine XCall.ret (contf_int nl xs 202 [.pim [.bf g fs]] (fun x => !p x) (by simp only [lowL, AV.low, hl]; rfl) hx fun x hm => bEvery1_bf x g fs p hl (hp x hm)) ?_
  conv => whnf
  refine XOut.bool ?_
  rw [List.not_any_eq_all_not]; simp
def fltA (g : FuncId) (caps : List AV) : AV := .agg [.fn g caps]
structure Flt (b : Bd) (g : FuncId) (caps : List AV) (p : Nat → Bool) : Prop where
  lo : lowL 0 caps = true
  c : ∀ i, i < b.surveys.length → Comp Try.prog g (natA i :: caps) (.bool (p i))
theorem bAll_c : Comp Try.prog 132 [] (fltA 180 []) := by
  refine Comp.body (T := tab) (res := [.cell 0 193]) tab_ok [] Try.func132 rfl (by kernel_rfl) Try.ntmps132 rfl (by simp only [List.length_cons, List.length_nil]; decide) (by rfl) ?_; conv => whnf
  skip
  exact ⟨.low rfl⟩
theorem bAll1_c (i : Int) : Comp Try.prog 180 [.int .i64 i] (.bool true) := by
  refine Comp.body (T := tab) (res := [.tmp 2]) tab_ok [] Try.func180 rfl (by kernel_rfl) Try.ntmps180 rfl (by simp only [List.length_cons, List.length_nil]; decide) (by rfl) ?_; conv => whnf
  skip
  exact ⟨.low rfl⟩
theorem allF_c (b : Bd) : Flt b 180 [] fun _ => true := ⟨rfl, fun i _ => bAll1_c i⟩
def suB (b : Bd) (i : Nat) : Su := b.surveys.getD i default
def agB (b : Bd) (p : Nat → Bool) (m n : Nat) : Bool := (rowT b m).all fun i => !p i.toNat || inZ n (suB b i.toNat).lo (suB b i.toNat).hi
theorem rowT_mem {b : Bd} {m : Nat} {x : Int} : x ∈ rowT b m ↔ ∃ i : Nat, i < b.surveys.length ∧ (suB b i).m = m ∧ x = i := by
  unfold rowT rowS
  rw [List.mem_map]
  constructor
  · rintro ⟨i, hi, rfl⟩
    rw [List.mem_filter, List.mem_range] at hi
    exact ⟨i, hi.1, by simpa [suB] using hi.2, rfl⟩
  · rintro ⟨i, hi, hm, rfl⟩
    exact ⟨i, by rw [List.mem_filter, List.mem_range]; exact ⟨hi, by simpa [suB] using hm⟩, rfl⟩
theorem rowT_len (b : Bd) (m : Nat) : (rowT b m).length ≤ b.surveys.length := by
  unfold rowT rowS
  rw [List.length_map]; exact Nat.le_trans (List.length_filter_le _ _) (by simp)
theorem bAgrees1_c (b : Bd) (g : FuncId) (caps : List AV) (p : Nat → Bool) (hf : Flt b g caps p) (hs : b.surveys.length ≤ 100000) (n i : Nat) (hi : i < b.surveys.length) : Comp Try.prog 179 [natA i, .pim [dskA b], .pim [.fn g caps], .pim [natA n]] (.bool (!p i || inZ n (suB b i).lo (suB b i).hi)) := by
  have hc := hf.c i hi
  generalize p i = r at hc
  refine Comp.body (T := tab) (res := [.tmp 5]) tab_ok [] Try.func179 rfl (by kernel_rfl) Try.ntmps179 rfl (by simp only [List.length_cons, List.length_nil]; decide) (by simp only [lowL, AV.low, dskL, hf.lo]; rfl) ?_; conv => whnf
  repeat' first | ((first | (with_reducible apply XBr.tt) | (with_reducible apply XBr.ff)); conv => whnf) | (with_reducible apply XBr.not) | ((first | ((with_reducible refine XIx.nat ?_ ?_ ?_); omega; (intro _; rfl)) | (refine XCall.ret hc ?_) | (refine XCall.ret (bedIn_c _ _ _) ?_)); conv => whnf) | ((with_reducible apply XBr.mk') <;> (intro h; conv => whnf)) | fail
  all_goals exact XOut.bool (by rw [h]; rfl)
theorem bAgrees_c (b : Bd) (ok : BdK b) (g : FuncId) (caps : List AV) (p : Nat → Bool) (hf : Flt b g caps p) (m n : Nat) : Comp Try.prog 131 [dskA b, fltA g caps, natA m, natA n] (.bool (agB b p m n)) := by
  have h1 := ok.s9
  have hl := rowT_len b m
  have he := bEvery_int (rowT b m).isEmpty (rowT b m) 179 [.pim [dskA b], .pim [.fn g caps], .pim [natA n]] (fun i => !p i.toNat || inZ n (suB b i.toNat).lo (suB b i.toNat).hi) (by simp only [lowL, AV.low, dskL, hf.lo]; rfl) (by omega) fun x hx => by
    obtain ⟨i, hi, _, rfl⟩ := rowT_mem.1 hx
    exact bAgrees1_c b g caps p hf (by omega) n i hi
  refine Comp.body (T := tab) (res := [.tmp 8]) tab_ok [] Try.func131 rfl (by kernel_rfl) Try.ntmps131 rfl (by simp only [List.length_cons, List.length_nil]; decide) (by simp only [lowL, AV.low, dskL, fltA, hf.lo]; rfl) ?_; conv => whnf
  repeat' first | ((first | (refine look_desk (fun s hs => (ok.su s hs).1) m ?_) | (refine XCall.ret he ?_)); conv => whnf) | fail
  exact XOut.bool rfl

def ahB (b : Bd) (p : Nat → Bool) : Nat → Nat → Bool
  | 0, n => agB b p b.months.length n
  | k + 1, n => (lvL b (b.months.length - (k + 1)) n).any (ahB b p k) && agB b p (b.months.length - (k + 1)) n
def ahF (b : Bd) (p : Nat → Bool) (m n : Nat) : Bool := decide ((n : Int) ≤ b.room) && ahB b p (b.months.length - m) n
def AhI (b : Bd) (p : Nat → Bool) (k n : Nat) (F : Nat → Nat → Bool) : Prop :=
  ∀ i, i ≤ b.months.length → ∀ j, j < 121 → F i j = if b.months.length < i + k then ahF b p i j else if i + k = b.months.length then decide (j < n) && ahB b p k j else false
theorem AhI.put {b : Bd} {p : Nat → Bool} {k n : Nat} {F : Nat → Nat → Bool} (h : AhI b p k n F) (hk : k ≤ b.months.length) {v : Bool} (hv : v = ahB b p k n) : AhI b p k (n + 1) (updM F (b.months.length - k) n v) := by
  intro i hi j hj
  unfold updM
  by_cases h1 : i = b.months.length - k ∧ j = n
  · rw [if_pos h1, if_neg (by omega), if_pos (by omega), h1.2, hv]; simp
  · rw [if_neg h1, h i hi j hj]
    by_cases h2 : b.months.length < i + k
    · rw [if_pos h2, if_pos h2]
    · rw [if_neg h2, if_neg h2]
      by_cases h3 : i + k = b.months.length
      · rw [if_pos h3, if_pos h3]
        have : j ≠ n := fun e => h1 ⟨by omega, e⟩
        rw [show decide (j < n + 1) = decide (j < n) by rw [decide_eq_decide]; omega]
      · rw [if_neg h3, if_neg h3]
theorem AhI.next {b : Bd} {p : Nat → Bool} {k n : Nat} {F : Nat → Nat → Bool} (h : AhI b p k n F) (hn : (n : Int) = b.room + 1) : AhI b p (k + 1) 0 F := by
  intro i hi j hj
  rw [h i hi j hj]
  by_cases h2 : b.months.length < i + k
  · rw [if_pos h2, if_pos (by omega)]
  · rw [if_neg h2]
    by_cases h3 : i + k = b.months.length
    · rw [if_pos h3, if_pos (by omega)]
      unfold ahF
      rw [show b.months.length - i = k by omega, show decide (j < n) = decide ((j : Int) ≤ b.room) by rw [decide_eq_decide]; omega]
    · rw [if_neg h3, if_neg (by omega)]
      split
      · simp
      · rfl
theorem AhI.read {b : Bd} {p : Nat → Bool} {k n : Nat} {F : Nat → Nat → Bool} (h : AhI b p (k + 1) n F) (hk : k + 1 ≤ b.months.length) {j : Nat} (hj : j < 121) (hr : (j : Int) ≤ b.room) : F (b.months.length - k) j = ahB b p k j := by
  rw [h _ (by omega) j hj, if_pos (by omega)]
  unfold ahF
  rw [decide_eq_true hr, show b.months.length - (b.months.length - k) = k by omega]; rfl
theorem foldl_any (f : Nat → Bool) : ∀ (l : List Nat) (s : Bool), l.foldl (fun s c => s || f c) s = (s || l.any f)
  | [], s => by simp
  | c :: l, s => by rw [List.foldl_cons, foldl_any f l, List.any_cons, Bool.or_assoc]
theorem any_congr {f g : Nat → Bool} : ∀ {l : List Nat}, (∀ c ∈ l, f c = g c) → l.any f = l.any g
  | [], _ => rfl
  | c :: l, h => by rw [List.any_cons, List.any_cons, h c List.mem_cons_self, any_congr fun c' hc' => h c' (List.mem_cons_of_mem _ hc')]
theorem mat0 (N : Nat) : (matF N 121 fun _ _ => false).map (arrF .bool) = List.replicate N (.agg (List.replicate 121 (.bool false))) := by
  unfold matF
  rw [vecF_replicate, vecF_replicate, List.map_replicate]
  unfold arrF
  rw [List.map_replicate]
theorem ahead_end (b : Bd) (p : Nat → Bool) (F : Nat → Nat → Bool) (hF : AhI b p (b.months.length + 1) 0 F) {H : List Blk} (hH : lget H 0 = some (.grow 198 false ((matF (b.months.length + 1) 121 F).map (arrF .bool)))) :
    XOut Try.prog H (.gr 0 (b.months.length + 1)) (.sl false ((matF (b.months.length + 1) 121 (ahF b p)).map (arrF .bool))) := by
  have e : matF (b.months.length + 1) 121 (ahF b p) = matF (b.months.length + 1) 121 F := matF_congr fun i hi j hj => by rw [hF i (by omega) j hj, if_pos (by omega)]
  rw [e]
  exact ⟨Froz.grow hH (by simp only [matF, List.length_map, vecF_len]) (mat_low fun _ => rfl)⟩
theorem ahead_c (b : Bd) (ok : BdK b) (g : FuncId) (caps : List AV) (p : Nat → Bool) (hf : Flt b g caps p) : Comp Try.prog 181 [dskA b, fltA g caps] (.sl false ((matF (b.months.length + 1) 121 (ahF b p)).map (arrF .bool))) := by
  have m1 := ok.m1
  have m2 := ok.m2
  have r1 := ok.r1
  have r2 := ok.r2
  have e1 : ((b.months.map moA).length : Int) = b.months.length := by rw [List.length_map]
  have agr := fun m n => bAgrees_c b ok g caps p hf m n
  refine Comp.body (T := tab) (res := [.tmp 4]) tab_ok [] Try.func181 rfl (by kernel_rfl) Try.ntmps181 rfl (by simp only [List.length_cons, List.length_nil]; decide) (by simp only [lowL, AV.low, dskL, fltA, hf.lo]; rfl) ?_; conv => whnf
  repeat' first | ((with_reducible refine XInt.i64 (by omega) (by omega) ?_); conv => whnf) | ((with_reducible refine XHold.mk ?_ ?_); (first | omega | rfl | decide | exact ⟨rfl, by decide, rfl⟩ | exact wideI _ | exact widePr _ | exact wideSk _ | (unfold Room; constructor <;> ((try simp) <;> omega)) | exact ⟨rfl, by simp only [List.length_map], by unfold Room; constructor <;> ((try simp) <;> omega)⟩ | exact ⟨by omega, by omega, by unfold Room; constructor <;> ((try simp) <;> omega)⟩); conv => whnf) | fail
  refine Walk.loopM tab_ok [] (fun q : Bool × Int × Nat × Int × (Nat → Nat → Bool) => q.2.2.1 ≤ b.months.length + 1 ∧ q.2.2.2.1 = (b.months.length : Int) - q.2.2.1 ∧ AhI b p q.2.2.1 0 q.2.2.2.2)
    (fun q => [(6, .ptr (bif q.1 then 3 else 2) 0), (0, dskA b), (3, .pim [.fn g caps]), (4, .sl true []), (5, .ptr 1 0)])
    (fun q => [.grow 198 false ((matF (b.months.length + 1) 121 q.2.2.2.2).map (arrF .bool)), .cells [.gr 0 (b.months.length + 1)]] ++ (bif q.1 then [.cells [.int .i64 q.2.1], .cells [.int .i64 q.2.2.2.1]] else [.cells [.int .i64 q.2.2.2.1]]))
    (fun q => b.months.length + 1 - q.2.2.1) (false, 0, 0, (b.months.length : Int), fun _ _ => false) 3 ⟨Nat.zero_le _, by simp, fun i hi j hj => ?_⟩ ?_ rfl ⟨rfl, rfl, rfl, rfl, rfl, trivial⟩ ?_
  · dsimp only; rw [if_neg (by omega)]; split <;> simp
  · dsimp only
    rw [mat0]
    show _ = [Blk.grow _ false (List.replicate (((b.months.map moA).length : Int) + 1).toNat _), Blk.cells [.gr 0 (((b.months.map moA).length : Int) + 1).toNat], Blk.cells [.int .i64 ((b.months.map moA).length : Int)]]
    rw [show (((b.months.map moA).length : Int) + 1).toNat = b.months.length + 1 by omega, e1]; rfl
  rintro ⟨s, jz, k, mz, F⟩ ⟨hk, hmz, hF⟩
  dsimp only at hk hmz hF ⊢
  cases s
  · conv => whnf
    repeat' first | ((with_reducible apply XBr.dec) <;> (intro h; first | (exfalso; omega) | ((try simp only [List.length_map] at h); first | (exfalso; omega) | (conv => whnf)))) | ((with_reducible refine XInt.i64 (by omega) (by omega) ?_); conv => whnf) | fail
    · obtain ⟨m, rfl⟩ : ∃ m : Nat, mz = m := ⟨mz.toNat, by omega⟩
      have hkm : k ≤ b.months.length := by omega
      have hgo := agr m
      refine Walk.loopM tab_ok [] (fun q : Nat × (Nat → Nat → Bool) => (q.1 : Int) ≤ b.room + 1 ∧ AhI b p k q.1 q.2) (fun q => [(0, dskA b), (3, .pim [.fn g caps]), (4, .sl true []), (5, .ptr 1 0), (6, .ptr 2 0), (33, .int .i64 (b.room + 1)), (34, natA q.1)])
        (fun q => [.grow 198 false ((matF (b.months.length + 1) 121 q.2).map (arrF .bool)), .cells [.gr 0 (b.months.length + 1)], .cells [natA m]]) (fun q => (b.room + 1).toNat - q.1) (0, F) 3 ⟨by dsimp only; omega, hF⟩ rfl rfl ⟨rfl, rfl, rfl, rfl, rfl, rfl, rfl, trivial⟩ ?_
      rintro ⟨n, F⟩ ⟨hn, hF⟩
      dsimp only at hn hF ⊢
      have hgn := hgo n
      have hlow : ∀ F' : Nat → Nat → Bool, ∀ z ∈ ([.grow 198 false ((matF (b.months.length + 1) 121 F').map (arrF .bool)), .cells [.gr 0 (b.months.length + 1)], .cells [natA m]] : List Blk), z.low 3 = true := fun F' z hz => by
        simp only [List.mem_cons, List.not_mem_nil, or_false] at hz
        rcases hz with rfl | rfl | rfl <;> first | exact mat_low (fun _ => rfl) | rfl
      have hlL : ∀ n' : Nat, ∀ z ∈ ([(0, dskA b), (3, .pim [.fn g caps]), (4, .sl true []), (5, .ptr 1 0), (6, .ptr 2 0), (33, .int .i64 (b.room + 1)), (34, natA n')] : List (Nat × AV)), z.2.low 3 = true := fun n' z hz => by
        simp only [List.mem_cons, List.not_mem_nil, or_false] at hz
        rcases hz with rfl | rfl | rfl | rfl | rfl | rfl | rfl <;> first | exact dskL b | rfl | exact AV.low_mono (Nat.zero_le _) (show (AV.pim [.fn g caps]).low 0 = true by simp only [AV.low, lowL, hf.lo]; rfl)
      have hput := fun v hv => hF.put (v := v) hkm hv
      rw [show b.months.length - k = m by omega] at hput
      conv => whnf
      repeat' first | (with_reducible apply XBr.not) | ((with_reducible apply XBr.dec) <;> (intro h; first | (exfalso; omega) | ((try simp only [List.length_map] at h); first | (exfalso; omega) | (conv => whnf)))) | ((with_reducible apply XBr.beq) <;> (intro h; first | (exfalso; omega) | (conv => whnf))) | ((with_reducible refine XInt.i64 (by omega) (by omega) ?_); conv => whnf) | (with_reducible apply XAnd.mk) | ((first | (with_reducible apply Chk.go) | (with_reducible apply ChkA.go) | (with_reducible apply ChkF.go) | (with_reducible apply ChkB.go)); conv => whnf) | (exact XSame.mk rfl rfl) | (with_reducible exact trivial) | (apply Walk.drawN (id := 8) tab_ok mixed_ok [] [8, 9] (hsC [_, _, _]) [_, _, _, _, _, _, _, _, _, _] (by kernel_rfl) rfl) | (apply Walk.drawN (id := 13) tab_ok mixed_ok [] [13] (hsC [_, _]) [_, _, _, _, _, _, _, _, _, _, _, _, _, _] (by kernel_rfl) rfl) | ((first | (with_reducible apply XNext.mk) | (refine XHold.mk ⟨by simp only [matF, List.length_map, vecF_len], rfl, by omega, by omega⟩ ?_) | (refine XArr.mk (by omega) (by omega) ?_) | (refine XStorePart ?_) | (refine XPutPart.mat m n _ (by omega) rfl rfl (by omega) (by omega) (by omega) rfl ?_) | (refine XCall.ret hgn ?_)); conv => whnf) | fail
      · obtain rfl : k = 0 := by omega
        refine XAgainM.go (n + 1, updM F m n (agB b p m n)) [.cells [.bool ((m : Int) == ((b.months.map moA).length : Int))]] ⟨by dsimp only; omega, hput _ (by unfold ahB; rw [show b.months.length = m by omega])⟩ (by dsimp only; omega) rfl ⟨rfl, rfl, rfl, rfl, rfl, rfl, rfl, trivial⟩ (Nat.le_refl _) (hlow _) (hlL _) (by simp) (by simp)
      · have hm1 : m < b.months.length := by omega
        refine XCall.ret (bLeaves_c b ok.toBedOk m n hm1) ?_
        conv => whnf
        refine Walk.range (own := []) tab_ok [(5, .ptr 1 0), (6, .ptr 2 0), (8, .ptr 3 0)] rfl ⟨rfl, rfl, rfl, trivial⟩ ?_
        intro fn
        refine bLeaves1_c b ok.toBedOk m n _ hm1 (by omega) _ _ ?_
        obtain ⟨k', rfl⟩ : ∃ k', k = k' + 1 := ⟨k - 1, by omega⟩
        have hrd := fun (c : Nat) (hc : (c : Int) ≤ b.room) => hF.read hkm (j := c) (by omega) hc
        rw [show b.months.length - k' = m + 1 by omega] at hrd
        refine IterL.go (S := Bool) (fun s => [.grow 198 false ((matF (b.months.length + 1) 121 F).map (arrF .bool)), .cells [.gr 0 (b.months.length + 1)], .cells [natA m], .cells [.bool s], .raw (.deferred (some [])), .lp .ready none fn [(5, .ptr 1 0), (6, .ptr 2 0), (8, .ptr 3 0)] #[51] _ _ _]) (fun s c => s || F (m + 1) c) (fun _ cs => ∀ c ∈ cs, (c : Int) ≤ b.room) ((m : Int) == ((b.months.map moA).length : Int)) rfl ?_ (fun c hc => by have := (mem_lvF.1 hc).2; have := hiR_b ok.toBedOk (n := n) hm1; omega) ?_
        · intro s c cs hcs
          have hc := hcs c List.mem_cons_self
          refine ⟨XYield.go (own := []) tab_ok rfl rfl (by decide) ?_, fun c' hc' => hcs c' (List.mem_cons_of_mem _ hc')⟩
          intro ρ
          conv => whnf
          cases s
          · skip
            repeat' first | ((first | (with_reducible apply XBr.ff) | (with_reducible refine XInt.i64 (by omega) (by omega) ?_) | (refine XHold.mk ⟨by simp only [matF, List.length_map, vecF_len], rfl, by omega, by omega⟩ ?_) | (refine XArr.mk (by omega) (by omega) ?_) | (refine XGet.mat rfl (by omega) ?_) | (refine xdrop_vec c (by omega) (by omega) ?_)); conv => whnf) | fail
            exact ⟨rfl, rfl⟩
          · skip
            repeat' first | ((with_reducible apply XBr.tt); conv => whnf) | fail
            exact ⟨rfl, rfl⟩
        · have hfold : (lvL b m n).foldl (fun s c => s || F (m + 1) c) ((m : Int) == ((b.months.map moA).length : Int)) = (lvL b m n).any (ahB b p k') := by
            rw [foldl_any, beq_eq_false_iff_ne.2 (by omega), Bool.false_or]
            refine any_congr fun c hc => hrd c ?_
            have := (mem_lvF.1 hc).2; have := hiR_b ok.toBedOk (n := n) hm1; omega
          rw [hfold]
          have hah : ahB b p (k' + 1) n = ((lvL b m n).any (ahB b p k') && agB b p m n) := by rw [ahB, show b.months.length - (k' + 1) = m by omega]
          rw [hah] at hput
          generalize (lvL b m n).any (ahB b p k') = s at hput
          cases s <;> (conv => whnf)
          all_goals
            repeat' first | ((first | (with_reducible apply XBr.tt) | (with_reducible apply XBr.ff) | (with_reducible refine XInt.i64 (by omega) (by omega) ?_)); conv => whnf) | (with_reducible apply XAnd.mk) | ((first | (with_reducible apply Chk.go) | (with_reducible apply ChkA.go) | (with_reducible apply ChkF.go) | (with_reducible apply ChkB.go)); conv => whnf) | (exact XSame.mk rfl rfl) | (with_reducible exact trivial) | (apply Walk.drawN (id := 13) tab_ok mixed_ok [] [13] (hsC [_, _]) [_, _, _, _, _, _, _, _, _, _, _, _, _, _] (by kernel_rfl) rfl) | ((first | (with_reducible apply XNext.mk) | (refine XHold.mk ⟨by simp only [matF, List.length_map, vecF_len], rfl, by omega, by omega⟩ ?_) | (refine XArr.mk (by omega) (by omega) ?_) | (refine XStorePart ?_) | (refine XPutPart.mat m n _ (by omega) rfl rfl (by omega) (by omega) (by omega) rfl ?_) | (refine XCall.ret hgn ?_)); conv => whnf) | fail
          · exact XAgainM.go (n + 1, updM F m n false) [.cells [.bool false], .raw (.deferred (some [])), .dead] ⟨by dsimp only; omega, hput _ rfl⟩ (by dsimp only; omega) rfl ⟨rfl, rfl, rfl, rfl, rfl, rfl, rfl, trivial⟩ (Nat.le_refl _) (hlow _) (hlL _) (by simp) (fun i hi => by rw [List.mem_singleton] at hi; subst hi; exact ⟨show 3 ≤ 3 + 1 by omega, rfl⟩)
          · exact XAgainM.go (n + 1, updM F m n (agB b p m n)) [.cells [.bool true], .raw (.deferred (some [])), .dead] ⟨by dsimp only; omega, hput _ rfl⟩ (by dsimp only; omega) rfl ⟨rfl, rfl, rfl, rfl, rfl, rfl, rfl, trivial⟩ (Nat.le_refl _) (hlow _) (hlL _) (by simp) (fun i hi => by rw [List.mem_singleton] at hi; subst hi; exact ⟨show 3 ≤ 3 + 1 by omega, rfl⟩)
      · refine XAgainM.go (true, (m : Int), k + 1, (m : Int) - 1, F) [] ⟨by dsimp only; omega, by dsimp only; omega, hF.next (by omega)⟩ (by dsimp only; omega) rfl ⟨rfl, rfl, rfl, rfl, rfl, trivial⟩ (show (3 : Nat) ≤ 4 by decide) ?_ ?_ (by simp) (by simp)
        · intro z hz
          simp only [List.mem_append, List.mem_cons, List.not_mem_nil, or_false, cond_true] at hz
          rcases hz with (rfl | rfl) | rfl | rfl <;> first | exact mat_low (fun _ => rfl) | rfl
        · intro z hz
          simp only [List.mem_cons, List.not_mem_nil, or_false] at hz
          rcases hz with rfl | rfl | rfl | rfl | rfl <;> first | exact dskL b | rfl | exact AV.low_mono (Nat.zero_le _) (show (AV.pim [.fn g caps]).low 0 = true by simp only [AV.low, lowL, hf.lo]; rfl)
    · obtain rfl : k = b.months.length + 1 := by omega
      exact ahead_end b p F hF rfl
  · conv => whnf
    repeat' first | ((with_reducible apply XBr.dec) <;> (intro h; first | (exfalso; omega) | ((try simp only [List.length_map] at h); first | (exfalso; omega) | (conv => whnf)))) | ((with_reducible refine XInt.i64 (by omega) (by omega) ?_); conv => whnf) | fail
    · obtain ⟨m, rfl⟩ : ∃ m : Nat, mz = m := ⟨mz.toNat, by omega⟩
      have hkm : k ≤ b.months.length := by omega
      have hgo := agr m
      refine Walk.loopM tab_ok [] (fun q : Nat × (Nat → Nat → Bool) => (q.1 : Int) ≤ b.room + 1 ∧ AhI b p k q.1 q.2) (fun q => [(0, dskA b), (3, .pim [.fn g caps]), (4, .sl true []), (5, .ptr 1 0), (6, .ptr 3 0), (33, .int .i64 (b.room + 1)), (34, natA q.1)])
        (fun q => [.grow 198 false ((matF (b.months.length + 1) 121 q.2).map (arrF .bool)), .cells [.gr 0 (b.months.length + 1)], .cells [.int .i64 jz], .cells [natA m]]) (fun q => (b.room + 1).toNat - q.1) (0, F) 4 ⟨by dsimp only; omega, hF⟩ rfl rfl ⟨rfl, rfl, rfl, rfl, rfl, rfl, rfl, trivial⟩ ?_
      rintro ⟨n, F⟩ ⟨hn, hF⟩
      dsimp only at hn hF ⊢
      have hgn := hgo n
      have hlow : ∀ F' : Nat → Nat → Bool, ∀ z ∈ ([.grow 198 false ((matF (b.months.length + 1) 121 F').map (arrF .bool)), .cells [.gr 0 (b.months.length + 1)], .cells [.int .i64 jz], .cells [natA m]] : List Blk), z.low 4 = true := fun F' z hz => by
        simp only [List.mem_cons, List.not_mem_nil, or_false] at hz
        rcases hz with rfl | rfl | rfl | rfl <;> first | exact mat_low (fun _ => rfl) | rfl
      have hlL : ∀ n' : Nat, ∀ z ∈ ([(0, dskA b), (3, .pim [.fn g caps]), (4, .sl true []), (5, .ptr 1 0), (6, .ptr 3 0), (33, .int .i64 (b.room + 1)), (34, natA n')] : List (Nat × AV)), z.2.low 4 = true := fun n' z hz => by
        simp only [List.mem_cons, List.not_mem_nil, or_false] at hz
        rcases hz with rfl | rfl | rfl | rfl | rfl | rfl | rfl <;> first | exact dskL b | rfl | exact AV.low_mono (Nat.zero_le _) (show (AV.pim [.fn g caps]).low 0 = true by simp only [AV.low, lowL, hf.lo]; rfl)
      have hput := fun v hv => hF.put (v := v) hkm hv
      rw [show b.months.length - k = m by omega] at hput
      conv => whnf
      repeat' first | (with_reducible apply XBr.not) | ((with_reducible apply XBr.dec) <;> (intro h; first | (exfalso; omega) | ((try simp only [List.length_map] at h); first | (exfalso; omega) | (conv => whnf)))) | ((with_reducible apply XBr.beq) <;> (intro h; first | (exfalso; omega) | (conv => whnf))) | ((with_reducible refine XInt.i64 (by omega) (by omega) ?_); conv => whnf) | (with_reducible apply XAnd.mk) | ((first | (with_reducible apply Chk.go) | (with_reducible apply ChkA.go) | (with_reducible apply ChkF.go) | (with_reducible apply ChkB.go)); conv => whnf) | (exact XSame.mk rfl rfl) | (with_reducible exact trivial) | (apply Walk.drawN (id := 8) tab_ok mixed_ok [] [8, 9] (hsC [_, _, _]) [_, _, _, _, _, _, _, _, _, _] (by kernel_rfl) rfl) | (apply Walk.drawN (id := 13) tab_ok mixed_ok [] [13] (hsC [_, _]) [_, _, _, _, _, _, _, _, _, _, _, _, _, _] (by kernel_rfl) rfl) | ((first | (with_reducible apply XNext.mk) | (refine XHold.mk ⟨by simp only [matF, List.length_map, vecF_len], rfl, by omega, by omega⟩ ?_) | (refine XArr.mk (by omega) (by omega) ?_) | (refine XStorePart ?_) | (refine XPutPart.mat m n _ (by omega) rfl rfl (by omega) (by omega) (by omega) rfl ?_) | (refine XCall.ret hgn ?_)); conv => whnf) | fail
      · obtain rfl : k = 0 := by omega
        refine XAgainM.go (n + 1, updM F m n (agB b p m n)) [.cells [.bool ((m : Int) == ((b.months.map moA).length : Int))]] ⟨by dsimp only; omega, hput _ (by unfold ahB; rw [show b.months.length = m by omega])⟩ (by dsimp only; omega) rfl ⟨rfl, rfl, rfl, rfl, rfl, rfl, rfl, trivial⟩ (Nat.le_refl _) (hlow _) (hlL _) (by simp) (by simp)
      · have hm1 : m < b.months.length := by omega
        refine XCall.ret (bLeaves_c b ok.toBedOk m n hm1) ?_
        conv => whnf
        refine Walk.range (own := []) tab_ok [(5, .ptr 1 0), (6, .ptr 3 0), (8, .ptr 4 0)] rfl ⟨rfl, rfl, rfl, trivial⟩ ?_
        intro fn
        refine bLeaves1_c b ok.toBedOk m n _ hm1 (by omega) _ _ ?_
        obtain ⟨k', rfl⟩ : ∃ k', k = k' + 1 := ⟨k - 1, by omega⟩
        have hrd := fun (c : Nat) (hc : (c : Int) ≤ b.room) => hF.read hkm (j := c) (by omega) hc
        rw [show b.months.length - k' = m + 1 by omega] at hrd
        refine IterL.go (S := Bool) (fun s => [.grow 198 false ((matF (b.months.length + 1) 121 F).map (arrF .bool)), .cells [.gr 0 (b.months.length + 1)], .cells [.int .i64 jz], .cells [natA m], .cells [.bool s], .raw (.deferred (some [])), .lp .ready none fn [(5, .ptr 1 0), (6, .ptr 3 0), (8, .ptr 4 0)] #[51] _ _ _]) (fun s c => s || F (m + 1) c) (fun _ cs => ∀ c ∈ cs, (c : Int) ≤ b.room) ((m : Int) == ((b.months.map moA).length : Int)) rfl ?_ (fun c hc => by have := (mem_lvF.1 hc).2; have := hiR_b ok.toBedOk (n := n) hm1; omega) ?_
        · intro s c cs hcs
          have hc := hcs c List.mem_cons_self
          refine ⟨XYield.go (own := []) tab_ok rfl rfl (by decide) ?_, fun c' hc' => hcs c' (List.mem_cons_of_mem _ hc')⟩
          intro ρ
          conv => whnf
          cases s
          · skip
            repeat' first | ((first | (with_reducible apply XBr.ff) | (with_reducible refine XInt.i64 (by omega) (by omega) ?_) | (refine XHold.mk ⟨by simp only [matF, List.length_map, vecF_len], rfl, by omega, by omega⟩ ?_) | (refine XArr.mk (by omega) (by omega) ?_) | (refine XGet.mat rfl (by omega) ?_) | (refine xdrop_vec c (by omega) (by omega) ?_)); conv => whnf) | fail
            exact ⟨rfl, rfl⟩
          · skip
            repeat' first | ((with_reducible apply XBr.tt); conv => whnf) | fail
            exact ⟨rfl, rfl⟩
        · have hfold : (lvL b m n).foldl (fun s c => s || F (m + 1) c) ((m : Int) == ((b.months.map moA).length : Int)) = (lvL b m n).any (ahB b p k') := by
            rw [foldl_any, beq_eq_false_iff_ne.2 (by omega), Bool.false_or]
            refine any_congr fun c hc => hrd c ?_
            have := (mem_lvF.1 hc).2; have := hiR_b ok.toBedOk (n := n) hm1; omega
          rw [hfold]
          have hah : ahB b p (k' + 1) n = ((lvL b m n).any (ahB b p k') && agB b p m n) := by rw [ahB, show b.months.length - (k' + 1) = m by omega]
          rw [hah] at hput
          generalize (lvL b m n).any (ahB b p k') = s at hput
          cases s <;> (conv => whnf)
          all_goals
            repeat' first | ((first | (with_reducible apply XBr.tt) | (with_reducible apply XBr.ff) | (with_reducible refine XInt.i64 (by omega) (by omega) ?_)); conv => whnf) | (with_reducible apply XAnd.mk) | ((first | (with_reducible apply Chk.go) | (with_reducible apply ChkA.go) | (with_reducible apply ChkF.go) | (with_reducible apply ChkB.go)); conv => whnf) | (exact XSame.mk rfl rfl) | (with_reducible exact trivial) | (apply Walk.drawN (id := 13) tab_ok mixed_ok [] [13] (hsC [_, _]) [_, _, _, _, _, _, _, _, _, _, _, _, _, _] (by kernel_rfl) rfl) | ((first | (with_reducible apply XNext.mk) | (refine XHold.mk ⟨by simp only [matF, List.length_map, vecF_len], rfl, by omega, by omega⟩ ?_) | (refine XArr.mk (by omega) (by omega) ?_) | (refine XStorePart ?_) | (refine XPutPart.mat m n _ (by omega) rfl rfl (by omega) (by omega) (by omega) rfl ?_) | (refine XCall.ret hgn ?_)); conv => whnf) | fail
          · exact XAgainM.go (n + 1, updM F m n false) [.cells [.bool false], .raw (.deferred (some [])), .dead] ⟨by dsimp only; omega, hput _ rfl⟩ (by dsimp only; omega) rfl ⟨rfl, rfl, rfl, rfl, rfl, rfl, rfl, trivial⟩ (Nat.le_refl _) (hlow _) (hlL _) (by simp) (fun i hi => by rw [List.mem_singleton] at hi; subst hi; exact ⟨show 4 ≤ 4 + 1 by omega, rfl⟩)
          · exact XAgainM.go (n + 1, updM F m n (agB b p m n)) [.cells [.bool true], .raw (.deferred (some [])), .dead] ⟨by dsimp only; omega, hput _ rfl⟩ (by dsimp only; omega) rfl ⟨rfl, rfl, rfl, rfl, rfl, rfl, rfl, trivial⟩ (Nat.le_refl _) (hlow _) (hlL _) (by simp) (fun i hi => by rw [List.mem_singleton] at hi; subst hi; exact ⟨show 4 ≤ 4 + 1 by omega, rfl⟩)
      · refine XAgainM.move (true, jz, k + 1, (m : Int) - 1, F) [.grow 198 false ((matF (b.months.length + 1) 121 F).map (arrF .bool)), .cells [.gr 0 (b.months.length + 1)], .cells [.int .i64 jz]] (.cells [natA m]) (.cells [.int .i64 ((m : Int) - 1)]) 6 [(0, dskA b), (3, .pim [.fn g caps]), (4, .sl true []), (5, .ptr 1 0)] ⟨by dsimp only; omega, by dsimp only; omega, hF.next (by omega)⟩ (by dsimp only; omega) rfl rfl rfl ⟨rfl, rfl, rfl, rfl, trivial⟩ rfl (show (3 : Nat) ≤ 3 by decide) ?_ rfl ?_
        · intro z hz
          simp only [List.mem_cons, List.not_mem_nil, or_false] at hz
          rcases hz with rfl | rfl | rfl <;> first | exact mat_low (fun _ => rfl) | rfl
        · intro z hz
          simp only [List.mem_cons, List.not_mem_nil, or_false] at hz
          rcases hz with rfl | rfl | rfl | rfl <;> first | exact dskL b | rfl | exact AV.low_mono (Nat.zero_le _) (show (AV.pim [.fn g caps]).low 0 = true by simp only [AV.low, lowL, hf.lo]; rfl)
    · obtain rfl : k = b.months.length + 1 := by omega
      exact ahead_end b p F hF rfl
end GA
end

section
namespace GA
open Go Go.RowKit Go.Proofs
set_option pp.deepTerms true
set_option maxRecDepth 8000
set_option linter.unusedVariables false
set_option linter.unusedSimpArgs false

def cnB (b : Bd) (p : Nat → Bool) : Nat → Nat → Bool
  | 0, n => ahF b p 0 n && inZ n (b.first - b.unsure) (b.first + b.unsure)
  | m + 1, k => (List.range 121).any (fun n => cnB b p m n && (lvL b m n).contains k) && ahF b p (m + 1) k
def CnI (b : Bd) (p : Nat → Bool) (m n : Nat) (F : Nat → Nat → Bool) : Prop :=
  ∀ i, i ≤ b.months.length → ∀ j, j < 121 → F i j = if i ≤ m then cnB b p i j else if i = m + 1 then (List.range n).any (fun q => cnB b p m q && (lvL b m q).contains j) && ahF b p i j else false
theorem CnI.next {b : Bd} {p : Nat → Bool} {m : Nat} {F : Nat → Nat → Bool} (h : CnI b p m 121 F) : CnI b p (m + 1) 0 F := by
  intro i hi j hj
  rw [h i hi j hj]
  by_cases h1 : i ≤ m
  · rw [if_pos h1, if_pos (by omega)]
  · rw [if_neg h1]
    by_cases h2 : i = m + 1
    · subst h2; rw [if_pos rfl, if_pos (Nat.le_refl _), cnB]
    · rw [if_neg h2, if_neg (by omega)]
      split
      · simp
      · rfl
theorem foldl_upd (G : Nat → Bool) (r : Nat) : ∀ (l : List Nat) (F : Nat → Nat → Bool) (i j : Nat), l.foldl (fun F c => updM F r c (G c)) F i j = if i = r ∧ l.contains j = true then G j else F i j
  | [], F, i, j => by simp
  | c :: l, F, i, j => by
    rw [List.foldl_cons, foldl_upd G r l]
    unfold updM
    simp only [List.contains_cons]
    by_cases h1 : i = r
    · by_cases h2 : l.contains j = true
      · rw [if_pos ⟨h1, h2⟩, if_pos ⟨h1, by rw [h2, Bool.or_true]⟩]
      · rw [if_neg (fun e => h2 e.2)]
        by_cases h3 : j = c
        · rw [if_pos ⟨h1, h3⟩, if_pos ⟨h1, by rw [h3]; simp⟩, h3]
        · rw [if_neg (fun e => h3 e.2), if_neg (fun e => h3 (by have := e.2; rw [Bool.eq_false_iff.2 h2, Bool.or_false] at this; simpa using this))]
    · rw [if_neg (fun e => h1 e.1), if_neg (fun e => h1 e.1), if_neg (fun e => h1 e.1)]
theorem CnI.step {b : Bd} {p : Nat → Bool} {m n : Nat} {F : Nat → Nat → Bool} (h : CnI b p m n F) : CnI b p m (n + 1) (if cnB b p m n = true then (lvL b m n).foldl (fun F c => updM F (m + 1) c (ahF b p (m + 1) c)) F else F) := by
  intro i hi j hj
  have h0 := h i hi j hj
  rw [List.range_succ, List.any_append, List.any_cons, List.any_nil, Bool.or_false]
  by_cases hc : cnB b p m n = true
  · rw [if_pos hc, foldl_upd, hc, Bool.true_and]
    by_cases h1 : i = m + 1
    · subst h1
      rw [if_neg (show ¬ m + 1 ≤ m by omega), if_pos rfl] at h0 ⊢
      by_cases h2 : (lvL b m n).contains j = true
      · rw [if_pos ⟨rfl, h2⟩, h2, Bool.or_true, Bool.true_and]
      · rw [if_neg (fun e => h2 e.2), h0, Bool.eq_false_iff.2 h2, Bool.or_false]
    · rw [if_neg (fun e => h1 e.1), h0]
      by_cases h2 : i ≤ m
      · rw [if_pos h2, if_pos h2]
      · rw [if_neg h2, if_neg h2, if_neg h1, if_neg h1]
  · rw [if_neg hc, Bool.eq_false_iff.2 hc, Bool.false_and, Bool.or_false, h0]
theorem cnB_room {b : Bd} {p : Nat → Bool} : ∀ {m n : Nat}, cnB b p m n = true → (n : Int) ≤ b.room
  | 0, n, h => by unfold cnB ahF at h; simp only [Bool.and_eq_true, decide_eq_true_eq] at h; exact h.1.1
  | m + 1, n, h => by unfold cnB ahF at h; simp only [Bool.and_eq_true, decide_eq_true_eq] at h; exact h.2.1
theorem amt_low (F : Nat → Nat → Bool) (N n : Nat) : (Blk.grow 198 false ((matF N 121 F).map (arrF .bool))).low n = true := mat_low fun _ => rfl
theorem amtC_low (F : Nat → Nat → Bool) (N n : Nat) : (Blk.cells [.sl false ((matF N 121 F).map (arrF .bool))]).low n = true := by
  show (lowL n _ && true) = true
  rw [Bool.and_true]; exact mat_low fun _ => rfl
theorem can_c (b : Bd) (ok : BdK b) (g : FuncId) (caps : List AV) (p : Nat → Bool) (hf : Flt b g caps p) : Comp Try.prog 137 [dskA b, fltA g caps] (.sl false ((matF (b.months.length + 1) 121 (cnB b p)).map (arrF .bool))) := by
  have m1 := ok.m1
  have m2 := ok.m2
  have r1 := ok.r1
  have r2 := ok.r2
  have f1 := ok.f1
  have f2 := ok.f2
  have u1 := ok.u1
  have u2 := ok.u2
  have e1 : ((b.months.map moA).length : Int) = b.months.length := by rw [List.length_map]
  have e2 : (((matF (b.months.length + 1) 121 (ahF b p)).map (arrF AV.bool)).length : Int) = b.months.length + 1 := by rw [List.length_map, matF, vecF_len]; omega
  have e3 : ((matF (b.months.length + 1) 121 (ahF b p)).length : Int) = b.months.length + 1 := by rw [matF, vecF_len]; omega
  have hah := ahead_c b ok g caps p hf
  refine Comp.body (T := tab) (res := [.tmp 4]) tab_ok [] Try.func137 rfl (by kernel_rfl) Try.ntmps137 rfl (by simp only [List.length_cons, List.length_nil]; decide) (by simp only [lowL, AV.low, dskL, fltA, hf.lo]; rfl) ?_; conv => whnf
  repeat' first | ((with_reducible refine XInt.i64 (by omega) (by omega) ?_); conv => whnf) | ((with_reducible refine XHold.mk ?_ ?_); (first | omega | rfl | decide | exact ⟨rfl, by decide, rfl⟩ | exact wideI _ | exact widePr _ | exact wideSk _ | (unfold Room; constructor <;> ((try simp) <;> omega)) | exact ⟨rfl, by simp only [List.length_map], by unfold Room; constructor <;> ((try simp) <;> omega)⟩ | exact ⟨by omega, by omega, by unfold Room; constructor <;> ((try simp) <;> omega)⟩); conv => whnf) | ((refine XCall.ret hah ?_); conv => whnf) | fail
  refine Walk.loopK tab_ok [] [(0, _), (4, _), (5, _), (6, _), (23, _)] ⟨rfl, rfl, rfl, rfl, rfl, trivial⟩ (fun q : Nat × (Nat → Nat → Bool) => (q.1 : Int) ≤ b.room + 1 ∧ ∀ i, i ≤ b.months.length → ∀ j, j < 121 → q.2 i j = if i = 0 ∧ j < q.1 then cnB b p 0 j else false) (fun q => [(24, natA q.1)])
    (fun q => [.cells [.sl false ((matF (b.months.length + 1) 121 (ahF b p)).map (arrF .bool))], .grow 198 false ((matF (b.months.length + 1) 121 q.2).map (arrF .bool)), .cells [.gr 1 (b.months.length + 1)]]) (fun q => (b.room + 1).toNat - q.1) (0, fun _ _ => false) ⟨by dsimp only; omega, fun i _ j _ => by dsimp only; rw [if_neg (by omega)]⟩ ?_ ⟨rfl, trivial⟩ ?_
  · show _ = [Blk.cells [.sl false ((matF (b.months.length + 1) 121 (ahF b p)).map (arrF .bool))], Blk.grow _ false (List.replicate (((matF (b.months.length + 1) 121 (ahF b p)).map (arrF AV.bool)).length : Int).toNat _), Blk.cells [.gr 1 (((matF (b.months.length + 1) 121 (ahF b p)).map (arrF AV.bool)).length : Int).toNat]]
    rw [e2, show ((b.months.length : Int) + 1).toNat = b.months.length + 1 by omega, mat0]
  · rintro ⟨n, F⟩ ⟨hn, hF⟩
    dsimp only at hn hF ⊢
    have hv : n < 121 → ∀ v, v = cnB b p 0 n → ∀ i, i ≤ b.months.length → ∀ j, j < 121 → updM F 0 n v i j = if i = 0 ∧ j < n + 1 then cnB b p 0 j else false := fun hn v hv i hi j hj => by
      unfold updM
      by_cases h1 : i = 0 ∧ j = n
      · rw [if_pos h1, if_pos ⟨h1.1, by omega⟩, hv, h1.2]
      · rw [if_neg h1, hF i hi j hj]
        by_cases h2 : i = 0 ∧ j < n
        · rw [if_pos h2, if_pos ⟨h2.1, by omega⟩]
        · rw [if_neg h2, if_neg (by omega)]
    have hcn : cnB b p 0 n = (ahF b p 0 n && inZ n (b.first - b.unsure) (b.first + b.unsure)) := rfl
    rw [hcn] at hv
    have hrd : ∀ h : ahF b p 0 n = true ∨ ahF b p 0 n = false, True := fun _ => trivial
    conv => whnf
    refine XBr.mk' ?_ ?_ <;> intro hlt <;> (conv => whnf)
    · have hlt' : (n : Int) < b.room + 1 := by simpa using hlt
      generalize hs : ahF b p 0 n = s at hv
      cases s
      all_goals
        repeat' first | ((first | (with_reducible apply XBr.tt) | (with_reducible apply XBr.ff) | (with_reducible refine XInt.i64 (by omega) (by omega) ?_)); conv => whnf) | (with_reducible apply XAnd.mk) | ((first | (with_reducible apply Chk.go) | (with_reducible apply ChkA.go) | (with_reducible apply ChkF.go) | (with_reducible apply ChkB.go)); conv => whnf) | (exact XSame.mk rfl rfl) | (with_reducible exact trivial) | (apply Walk.drawN (id := 6) tab_ok mixed_ok [] [35] (hsC [_, _]) [_, _, _, _, _, _, _, _, _, _, _, _, _, _, _, _, _, _, _, _, _, _, _, _, _, _, _, _, _, _, _, _, _, _, _, _] (by kernel_rfl) rfl) | ((first | (with_reducible apply XNext.mk) | (refine XIx.mat 0 rfl (by omega) rfl ?_) | ((refine XArr.vec n rfl (by omega) (by omega) ?_); rw [hs]) | (refine XHold.mk ⟨by simp only [matF, List.length_map, vecF_len], rfl, by omega, by omega⟩ ?_) | (refine XArr.mk (by omega) (by omega) ?_) | (refine XStorePart ?_) | (refine XPutPart.mat 0 n _ (by omega) rfl rfl (by omega) (by omega) (by omega) rfl ?_) | (refine XCall.ret (bedIn_c _ _ _) ?_)); conv => whnf) | fail
        exact XAgain.go (n + 1, updM F 0 n _) ⟨by dsimp only; omega, hv (by omega) _ rfl⟩ (by dsimp only; omega) rfl ⟨rfl, rfl, rfl, rfl, rfl, rfl, trivial⟩
    · have hn2 : (n : Int) = b.room + 1 := by have := hlt; simp at this; omega
      have hF0 : CnI b p 0 0 F := fun i hi j hj => by
        rw [hF i hi j hj]
        by_cases h1 : i = 0
        · subst h1
          rw [if_pos (Nat.le_refl 0)]
          by_cases h2 : j < n
          · rw [if_pos ⟨rfl, h2⟩]
          · rw [if_neg (fun e => h2 e.2)]
            cases hc : cnB b p 0 j
            · rfl
            · exact absurd (cnB_room hc) (by omega)
        · rw [if_neg (fun e => h1 e.1), if_neg (by omega)]
          split <;> simp
      clear hF hv hrd hcn
      skip
      refine Walk.loopGK tab_ok [] [(0, _), (4, _), (5, _), (6, _), (68, _)] ⟨rfl, rfl, rfl, rfl, rfl, trivial⟩ (fun q : Nat × (Nat → Nat → Bool) => q.1 ≤ b.months.length ∧ CnI b p q.1 0 q.2) (fun q => [(69, natA q.1)])
        (fun q => [.cells [.sl false ((matF (b.months.length + 1) 121 (ahF b p)).map (arrF .bool))], .grow 198 false ((matF (b.months.length + 1) 121 q.2).map (arrF .bool)), .cells [.gr 1 (b.months.length + 1)]]) (fun q => b.months.length - q.1) (0, F) ⟨Nat.zero_le _, hF0⟩ rfl ⟨rfl, trivial⟩ ?_ ?_ ?_
      · intro q _
        refine ⟨fun z hz => ?_, fun z hz => ?_⟩
        · simp only [List.mem_cons, List.not_mem_nil, or_false] at hz
          rcases hz with rfl | rfl | rfl
          · exact amtC_low _ _ _
          · exact amt_low _ _ _
          · rfl
        · simp only [List.cons_append, List.nil_append, List.mem_cons, List.not_mem_nil, or_false] at hz
          rcases hz with rfl | rfl | rfl | rfl | rfl | rfl <;> first | exact dskL b | rfl
      · intro q _; exact (show (3 : Nat) ≤ 3 from Nat.le_refl 3)
      clear hF0 hlt hn hn2
      rintro ⟨m, F0⟩ ⟨hm, hF0⟩
      dsimp only at hm hF0 ⊢
      conv => whnf
      repeat' first | ((with_reducible apply XBr.dec) <;> (intro h; first | (exfalso; omega) | ((try simp only [List.length_map] at h); first | (exfalso; omega) | (conv => whnf)))) | ((first | (refine XHold.mk ⟨by simp only [matF, List.length_map, vecF_len], rfl, by omega, by omega⟩ ?_) | (refine XGet.mat rfl (by omega) ?_) | (refine xtk_vec rfl ?_)); conv => whnf) | fail
      · have hm1 : m < b.months.length := by omega
        have hv : vecF 121 (F0 m) = vecF 121 (cnB b p m) := vecF_congr fun j hj => by rw [hF0 m (by omega) j hj, if_pos (Nat.le_refl m)]
        refine Walk.loopM tab_ok [] (fun q : Nat × (Nat → Nat → Bool) => q.1 ≤ 121 ∧ CnI b p m q.1 q.2) (fun q => [(0, dskA b), (4, .sl true []), (5, .ptr 0 0), (6, .ptr 2 0), (8, .ptr 3 0), (68, .int .i64 (b.months.map moA).length), (69, natA m), (75, .agg ((vecF 121 (cnB b p m)).map .bool)), (76, natA q.1)])
          (fun q => [.cells [.sl false ((matF (b.months.length + 1) 121 (ahF b p)).map (arrF .bool))], .grow 198 false ((matF (b.months.length + 1) 121 q.2).map (arrF .bool)), .cells [.gr 1 (b.months.length + 1)], .cells [natA m]]) (fun q => 121 - q.1) (0, F0) 4 ⟨Nat.zero_le _, hF0⟩ rfl rfl ⟨rfl, rfl, rfl, rfl, rfl, rfl, rfl, ?_, rfl, trivial⟩ ?_
        · rw [← hv]; rfl
        have hlow : ∀ F' : Nat → Nat → Bool, ∀ z ∈ ([.cells [.sl false ((matF (b.months.length + 1) 121 (ahF b p)).map (arrF .bool))], .grow 198 false ((matF (b.months.length + 1) 121 F').map (arrF .bool)), .cells [.gr 1 (b.months.length + 1)], .cells [natA m]] : List Blk), z.low 4 = true := fun F' z hz => by
          simp only [List.mem_cons, List.not_mem_nil, or_false] at hz
          rcases hz with rfl | rfl | rfl | rfl
          · exact amtC_low _ _ _
          · exact amt_low _ _ _
          · rfl
          · rfl
        have hlL : ∀ n' : Nat, ∀ z ∈ ([(0, dskA b), (4, .sl true []), (5, .ptr 0 0), (6, .ptr 2 0), (8, .ptr 3 0), (68, .int .i64 (b.months.map moA).length), (69, natA m), (75, .agg ((vecF 121 (cnB b p m)).map .bool)), (76, natA n')] : List (Nat × AV)), z.2.low 4 = true := fun n' z hz => by
          simp only [List.mem_cons, List.not_mem_nil, or_false] at hz
          rcases hz with rfl | rfl | rfl | rfl | rfl | rfl | rfl | rfl | rfl <;> first | exact dskL b | rfl | exact vec_low fun _ => rfl
        rintro ⟨n, F⟩ ⟨hn, hF⟩
        dsimp only at hn hF ⊢
        have hst := hF.step
        generalize hc : cnB b p m n = s at hst
        conv => whnf
        repeat' first | ((with_reducible apply XBr.dec) <;> (intro h; first | (exfalso; omega) | ((try simp only [List.length_map] at h); first | (exfalso; omega) | (conv => whnf)))) | ((with_reducible refine XInt.i64 (by omega) (by omega) ?_); conv => whnf) | ((with_reducible refine XHold.mk ?_ ?_); (first | omega | rfl | decide | exact ⟨rfl, by decide, rfl⟩ | exact wideI _ | exact widePr _ | exact wideSk _ | (unfold Room; constructor <;> ((try simp) <;> omega)) | exact ⟨rfl, by simp only [List.length_map], by unfold Room; constructor <;> ((try simp) <;> omega)⟩ | exact ⟨by omega, by omega, by unfold Room; constructor <;> ((try simp) <;> omega)⟩); conv => whnf) | ((first | ((refine xdrop_vec n (by omega) (by omega) ?_); rw [hc]) | (refine XCall.ret (bLeaves_c b ok.toBedOk m n hm1) ?_)); conv => whnf) | ((with_reducible apply XBr.mk') <;> (intro h; conv => whnf)) | fail
        · subst h
          have hr := cnB_room hc
          refine Walk.range (own := []) tab_ok [(5, .ptr 0 0), (6, .ptr 2 0), (8, .ptr 3 0)] rfl ⟨rfl, rfl, rfl, trivial⟩ ?_
          intro fn
          refine bLeaves1_c b ok.toBedOk m n _ hm1 (by omega) _ _ ?_
          refine IterL.go (S := Nat → Nat → Bool) (fun F' => [.cells [.sl false ((matF (b.months.length + 1) 121 (ahF b p)).map (arrF .bool))], .grow 198 false ((matF (b.months.length + 1) 121 F').map (arrF .bool)), .cells [.gr 1 (b.months.length + 1)], .cells [natA m], .raw (.deferred (some [])), .lp .ready none fn [(5, .ptr 0 0), (6, .ptr 2 0), (8, .ptr 3 0)] #[85] _ _ _]) (fun F' c => updM F' (m + 1) c (ahF b p (m + 1) c)) (fun _ cs => ∀ c ∈ cs, (c : Int) ≤ b.room) F rfl ?_ (fun c hc => by have := (mem_lvF.1 hc).2; have := hiR_b ok.toBedOk (n := n) hm1; omega) ?_
          · intro F' c cs hcs
            have hc := hcs c List.mem_cons_self
            refine ⟨XYield.go (own := []) tab_ok rfl rfl (by decide) ?_, fun c' hc' => hcs c' (List.mem_cons_of_mem _ hc')⟩
            intro ρ
            conv => whnf
            repeat' first | ((with_reducible refine XInt.i64 (by omega) (by omega) ?_); conv => whnf) | (with_reducible apply XAnd.mk) | ((first | (with_reducible apply Chk.go) | (with_reducible apply ChkA.go) | (with_reducible apply ChkF.go) | (with_reducible apply ChkB.go)); conv => whnf) | (exact XSame.mk rfl rfl) | (with_reducible exact trivial) | (apply Walk.drawN (id := 17) tab_ok mixed_ok [] [13] (hsC [_, _]) [_, _, _, _, _, _, _, _, _, _, _, _, _, _] (by kernel_rfl) rfl) | ((first | (with_reducible apply XNext.mk) | (refine XIx.mat (m + 1) (by omega) (by omega) rfl ?_) | (refine XArr.vec c rfl (by omega) (by omega) ?_) | (refine XHold.mk ⟨by simp only [matF, List.length_map, vecF_len], rfl, by omega, by omega⟩ ?_) | (refine XArr.mk (by omega) (by omega) ?_) | (refine XStorePart ?_) | (refine XPutPart.mat (m + 1) c _ (by omega) rfl rfl (by omega) (by omega) (by omega) rfl ?_)); conv => whnf) | fail
            exact ⟨rfl, rfl⟩
          · rw [if_pos rfl] at hst
            conv => whnf
            repeat' first | ((with_reducible refine XInt.i64 (by omega) (by omega) ?_); conv => whnf) | fail
            exact XAgainM.go (n + 1, _) [.raw (.deferred (some [])), .dead] ⟨by dsimp only; omega, hst⟩ (by dsimp only; omega) rfl ⟨rfl, rfl, rfl, rfl, rfl, rfl, rfl, rfl, rfl, trivial⟩ (Nat.le_refl _) (hlow _) (hlL _) (by simp) (fun i hi => by rw [List.mem_singleton] at hi; subst hi; exact ⟨show 4 ≤ 4 by omega, rfl⟩)
        · subst h
          rw [if_neg (by simp)] at hst
          exact XAgainM.go (n + 1, F) [] ⟨by dsimp only; omega, hst⟩ (by dsimp only; omega) rfl ⟨rfl, rfl, rfl, rfl, rfl, rfl, rfl, rfl, rfl, trivial⟩ (Nat.le_refl _) (hlow _) (hlL _) (by simp) (by simp)
        · obtain rfl : n = 121 := by omega
          exact XAgainG.go (m + 1, F) [.cells [natA m]] ⟨by dsimp only; omega, hF.next⟩ (by dsimp only; omega) rfl ⟨rfl, rfl, rfl, rfl, rfl, rfl, trivial⟩
      · obtain rfl : m = b.months.length := by omega
        have e : matF (b.months.length + 1) 121 (cnB b p) = matF (b.months.length + 1) 121 F0 := matF_congr fun i hi j hj => by rw [hF0 i (by omega) j hj, if_pos (by omega)]
        rw [e]
        exact ⟨Froz.grow (i := 1) rfl (by simp only [matF, List.length_map, vecF_len]) (mat_low fun _ => rfl)⟩
end GA
end

section
namespace GA
open Go Go.RowKit Go.Proofs
set_option pp.deepTerms true
set_option maxRecDepth 8000
set_option linter.unusedVariables false
set_option linter.unusedSimpArgs false

theorem wideMo (xs : List Mo) : wide 6 (xs.map moA) = true := wide_map (f := moA) (n := 6) (fun _ => rfl) (fun _ => rfl) xs
theorem wideSu (xs : List Su) : wide 3 (xs.map suA) = true := wide_map (f := suA) (n := 3) (fun _ => rfl) (fun _ => rfl) xs
def plMo (b : Bd) (plan : List Int) (j i : Nat) : Mo := if i < j then { moB b i with r := plan.getD i 0 } else moB b i
def withPlan (b : Bd) (plan : List Int) : Bd := { b with nlm := false, months := vecF b.months.length (plMo b plan b.months.length) }
theorem esS_congr {b c : Bd} (h : b.surveys = c.surveys) : ∀ j, esS b j = esS c j
  | 0 => rfl
  | j + 1 => by
    have hr : ∀ j k, rowS b j k = rowS c j k := fun j k => by unfold rowS; rw [h]
    show mput _ _ (esS b j) = mput _ _ (esS c j)
    rw [esS_congr h j, h, hr]
theorem dsk_congr {b c : Bd} (h : b.surveys = c.surveys) : keyS b = keyS c ∧ rowsS b = rowsS c := by
  have hk : keyS b = keyS c := by unfold keyS; rw [esS_congr h, h]
  refine ⟨hk, ?_⟩
  unfold rowsS
  rw [hk]
  have : rowT b = rowT c := by funext k; unfold rowT rowS; rw [h]
  rw [this]
theorem withPlan_len (b : Bd) (plan : List Int) : (withPlan b plan).months.length = b.months.length := vecF_len _ _
theorem withPlan_mo {b : Bd} {plan : List Int} {i : Nat} (hi : i < b.months.length) : moB (withPlan b plan) i = { moB b i with r := plan.getD i 0 } := by
  unfold moB
  show (vecF b.months.length _).getD i default = _
  rw [vecF_get _ hi]; unfold plMo; rw [if_pos hi]; rfl
theorem withPlan_ok {b : Bd} (ok : BdOk b) {plan : List Int} (hp : ∀ x ∈ plan, 0 ≤ x ∧ x ≤ b.room) (hl : plan.length = b.months.length) : BdOk (withPlan b plan) := by
  refine ⟨⟨ok.r1, ok.r2, ?_, ?_, ok.f1, ok.f2, ok.u1, ok.u2, fun m hm => ?_⟩, ok.s1, fun s hs => ?_⟩
  · rw [withPlan_len]; exact ok.m1
  · rw [withPlan_len]; exact ok.m2
  · obtain ⟨i, hi, rfl⟩ := vecF_mem.1 hm
    unfold plMo
    rw [if_pos hi]
    have h1 := ok.mo' hi
    have h2 := hp _ (getD_mem (xs := plan) (d := 0) (i := i) (by omega))
    exact ⟨h1.1, h1.2.1, h2.1, h2.2, h1.2.2.2.2⟩
  · rw [withPlan_len]; exact ok.su s hs
def planE (b : Bd) (plan : List Int) : Int := if bedE b ≠ 0 then bedE b else if (plan.length : Int) ≠ b.months.length then 2 else if plan.all (fun x => inZ x 0 b.room) = false then 3 else 0
theorem planE_iff {b : Bd} {plan : List Int} : planE b plan = 0 ↔ BdOk b ∧ plan.length = b.months.length ∧ ∀ x ∈ plan, 0 ≤ x ∧ x ≤ b.room := by
  unfold planE
  constructor
  · intro h
    split at h
    · rename_i h1; exact absurd h h1
    · split at h; · cases h
      split at h; · cases h
      rename_i h1 h2 h3
      rw [Bool.not_eq_false, List.all_eq_true] at h3
      exact ⟨(bedE_iff b).1 (by omega), by omega, fun x hx => inZ_iff.1 (h3 x hx)⟩
  · rintro ⟨h1, h2, h3⟩
    rw [if_neg (fun h => h ((bedE_iff b).2 h1)), if_neg (by omega), if_neg (by rw [List.all_eq_true.2 fun x hx => inZ_iff.2 (h3 x hx)]; simp)]
theorem XPutPart.moR {n e' o w : Nat} {k : List AV → Prop} {N : Nat} {F : Nat → Mo} {v : Int} (e : Nat) (he : e = e') (h1 : n = N) (h2 : e < N) (ho : o = 1) (hw : w = 6)
    (h : k ((vecF N (updV F e { F e with r := v })).map moA)) : XPutPart ((vecF N F).map moA) n e' o w [.int .i64 v] k := by
  subst he; subst h1; subst ho; subst hw
  have hg : ((vecF n F).map moA).getD e default = moA (F e) := by
    rw [List.getD_eq_getElem?_getD, List.getElem?_map, vecF_get?, if_pos h2]; rfl
  refine ⟨by rw [List.length_map, vecF_len], h2, by simp, by rw [hg]; rfl, ?_⟩
  rw [hg]
  show k (((vecF n F).map moA).set e (moA { F e with r := v }))
  rw [← List.map_set, vecF_set]; exact h
theorem dskS_ren0 (b : Bd) (hm : ∀ s ∈ b.surveys, 0 ≤ s.m ∧ s.m ≤ 10) : (dskS b).map (Blk.ren (([] : List Blk).length + ·)) = dskS b := by
  have : ∀ x ∈ dskS b, Blk.ren (([] : List Blk).length + ·) x = id x := fun x hx => Blk.ren_low (n := 13) (fun i _ => Nat.zero_add i) (dskS_low b hm x hx)
  rw [List.map_congr_left this, List.map_id]
theorem months_vec (b : Bd) : b.months = vecF b.months.length (moB b) := by
  apply List.ext_getElem?; intro i
  rw [vecF_get?]
  by_cases h : i < b.months.length
  · rw [if_pos h, List.getElem?_eq_getElem h]; unfold moB; rw [List.getD_eq_getElem?_getD, List.getElem?_eq_getElem h]; rfl
  · rw [if_neg h, List.getElem?_eq_none (by omega)]
theorem FrozL.rows {b : Bd} {H : List Blk} (hm : ∀ s ∈ b.surveys, 0 ≤ s.m ∧ s.m ≤ 10) (h : ∀ k, k ≤ 10 → lget H (2 + k) = some (rowB b b.surveys.length k)) : FrozL Try.prog H ((esS b b.surveys.length).map (·.2)) (rowsS b) := by
  refine frozMap _ (fun k => slA (rowT b k.toNat)) _ fun p hp => ?_
  obtain ⟨h1, h2, h3⟩ := esS_vals b hm _ (Nat.le_refl _) p hp
  rw [h3]
  exact Froz.grow (h _ (by omega)) (List.length_map _) (lowI _)
set_option maxHeartbeats 1000000 in
theorem planned_c (b : Bd) (ok : BdOk b) (nl : Bool) (plan : List Int) (hl : plan.length = b.months.length) (hp : ∀ x ∈ plan, 0 ≤ x ∧ x ≤ b.room) : Comp Try.prog 93 [bedA b, .sl nl (ints plan)] (.tup [dskA (withPlan b plan), .int .i64 0]) := by
  have m1 := ok.m1
  have m2 := ok.m2
  have e1 : ((b.months.map moA).length : Int) = b.months.length := by rw [List.length_map]
  have e2 : ((ints plan).length : Int) = b.months.length := by rw [ints_len]; omega
  have hop := bedOpenedS_c b ((bedE_iff b).2 ok) ok.m2 ok.s1 ok.sm
  have hev := bEvery_bf nl plan 94 [bedA b] (fun x => inZ x 0 b.room) (by simp only [lowL, bedL]; rfl) (by omega) fun x _ => bedAmount_c b x
  rw [List.all_eq_true.2 fun x hx => inZ_iff.2 (hp x hx)] at hev
  refine Comp.body (T := tab) (res := [.tmp 4, .tmp 5]) tab_ok [] Try.func93 rfl (by kernel_rfl) Try.ntmps93 rfl (by simp only [List.length_cons, List.length_nil]; decide) (by simp only [lowL, bedL, AV.low, lowI]; rfl) ?_; conv => whnf
  refine XCall.give hop ?_
  rw [dskS_ren0 b ok.sm]
  conv => whnf
  repeat' first | ((with_reducible apply XBr.tt); conv => whnf) | (with_reducible apply XBr.not) | ((with_reducible apply XBr.bne) <;> (intro h; first | (exfalso; omega) | (conv => whnf))) | ((with_reducible refine XHold.mk ?_ ?_); (first | omega | rfl | decide | exact ⟨rfl, by decide, rfl⟩ | exact wideI _ | exact widePr _ | exact wideSk _ | (unfold Room; constructor <;> ((try simp) <;> omega)) | exact ⟨rfl, by simp only [List.length_map], by unfold Room; constructor <;> ((try simp) <;> omega)⟩ | exact ⟨by omega, by omega, by unfold Room; constructor <;> ((try simp) <;> omega)⟩); conv => whnf) | ((first | (refine XCall.ret hev ?_) | (refine XHold.mk (wideMo _) ?_) | (refine XHold.mk ⟨rfl, by rw [List.length_replicate]⟩ ?_) | (refine XPutEls.mk ?_)); conv => whnf) | fail
  have hv0 : b.months.map moA = (vecF b.months.length (plMo b plan 0)).map moA := by
    have : vecF b.months.length (plMo b plan 0) = vecF b.months.length (moB b) := vecF_congr fun i _ => by unfold plMo; rw [if_neg (by omega)]
    rw [this, ← months_vec]
  refine Walk.loopK tab_ok [] [(4, _), (5, _), (6, .ptr 1 0), (8, .gr 13 b.months.length), (41, _), (42, .int .i64 b.months.length)] ⟨rfl, rfl, rfl, ?_, rfl, congrArg (fun z => some (AV.int .i64 z)) e2, trivial⟩ (fun j : Nat => j ≤ b.months.length) (fun j => [(43, natA j)]) (fun j => dskS b ++ [.grow 60 false ((vecF b.months.length (plMo b plan j)).map moA)]) (fun j => b.months.length - j) 0 (Nat.zero_le _) ?_ ⟨rfl, trivial⟩ ?_
  · show some (AV.gr 13 _) = _
    rw [e1, Int.toNat_natCast]
  · show dskS b ++ [_] = dskS b ++ [Blk.grow _ false (splice (List.replicate _ _) 0 _)]
    rw [← hv0]
    have hz : splice (List.replicate (((b.months.map moA).length : Int)).toNat (AV.agg [.int .i64 0, .int .i64 0, .int .i64 0, .int .i64 0, .int .i64 0, .int .i64 0])) 0 ((b.months.map moA).take (((b.months.map moA).length : Int)).toNat) = b.months.map moA := by
      rw [Int.toNat_natCast, List.take_length]
      unfold splice
      simp
    rw [hz]
  intro j hj
  have hpj : j < b.months.length → vecF b.months.length (plMo b plan (j + 1)) = vecF b.months.length (updV (plMo b plan j) j { plMo b plan j j with r := plan.getD j 0 }) := fun hj => vecF_congr fun i hi => by
    unfold updV plMo
    by_cases h : i = j
    · subst h; rw [if_pos rfl, if_pos (by omega), if_neg (by omega)]
    · rw [if_neg h]
      by_cases h2 : i < j
      · rw [if_pos h2, if_pos (by omega)]
      · rw [if_neg h2, if_neg (by omega)]
  conv => whnf
  repeat' first | ((with_reducible apply XBr.dec) <;> (intro h; first | (exfalso; omega) | ((try simp only [List.length_map] at h); first | (exfalso; omega) | (conv => whnf)))) | ((first | (with_reducible refine XInt.i64 (by omega) (by omega) ?_) | ((with_reducible refine XIx.nat ?_ ?_ ?_); omega; (intro _; rfl)) | (refine XHold.mk ⟨by simp only [List.length_map, vecF_len], rfl, by omega, by omega⟩ ?_) | (refine XPutPart.moR j (by omega) rfl (by omega) rfl rfl ?_)); conv => whnf) | fail
  · refine XAgain.go (j + 1) (by omega) (by omega) ?_ ⟨rfl, rfl, rfl, rfl, rfl, rfl, rfl, trivial⟩
    rw [hpj (by omega)]; rfl
  · obtain rfl : j = b.months.length := by omega
    obtain ⟨hk1, hk2⟩ := dsk_congr (b := withPlan b plan) (c := b) rfl
    refine ⟨Froz.tup (.cons (Froz.ptr rfl (dskOne _) ?_) (.cons (.low rfl) .nil))⟩
    show FrozL _ _ _ (bedC (withPlan b plan) ++ [.im (keyS (withPlan b plan)) (rowsS (withPlan b plan))])
    rw [hk1, hk2]
    refine .cons (.low rfl) (.cons (.low rfl) (.cons (.low rfl) (.cons (Froz.grow rfl (by rw [List.length_map]; exact withPlan_len b plan) (lowMo _)) (.cons (.low (lowSu _)) (.cons (Froz.mp rfl ?_) .nil)))))
    refine FrozL.rows ok.sm fun k hk => ?_
    have hkk : k = 0 ∨ k = 1 ∨ k = 2 ∨ k = 3 ∨ k = 4 ∨ k = 5 ∨ k = 6 ∨ k = 7 ∨ k = 8 ∨ k = 9 ∨ k = 10 := by omega
    rcases hkk with rfl | rfl | rfl | rfl | rfl | rfl | rfl | rfl | rfl | rfl | rfl <;> rfl
theorem plannedE_c (b : Bd) (nl : Bool) (plan : List Int) (hm : b.months.length ≤ 100000) (hs : b.surveys.length ≤ 100000) (hl : plan.length ≤ 100000) (hE : planE b plan ≠ 0) : Comp Try.prog 93 [bedA b, .sl nl (ints plan)] (.tup [.nilp, .int .i64 (planE b plan)]) := by
  have e1 : ((b.months.map moA).length : Int) = b.months.length := by rw [List.length_map]
  have e2 : ((ints plan).length : Int) = plan.length := by rw [ints_len]
  have hev := bEvery_bf nl plan 94 [bedA b] (fun x => inZ x 0 b.room) (by simp only [lowL, bedL]; rfl) (by omega) fun x _ => bedAmount_c b x
  by_cases hb : bedE b = 0
  · have hop := bOpened_c b ((bedE_iff b).1 hb)
    unfold planE at hE ⊢
    rw [if_neg (fun h => h hb)] at hE ⊢
    generalize plan.all (fun x => inZ x 0 b.room) = r at hev hE
    refine Comp.body (T := tab) (res := [.tmp 4, .tmp 5]) tab_ok [] Try.func93 rfl (by kernel_rfl) Try.ntmps93 rfl (by simp only [List.length_cons, List.length_nil]; decide) (by simp only [lowL, bedL, AV.low, lowI]; rfl) ?_; conv => whnf
    repeat' first | (with_reducible apply XBr.not) | ((with_reducible apply XBr.bne) <;> (intro h; first | (exfalso; omega) | (conv => whnf))) | ((with_reducible refine XHold.mk ?_ ?_); (first | omega | rfl | decide | exact ⟨rfl, by decide, rfl⟩ | exact wideI _ | exact widePr _ | exact wideSk _ | (unfold Room; constructor <;> ((try simp) <;> omega)) | exact ⟨rfl, by simp only [List.length_map], by unfold Room; constructor <;> ((try simp) <;> omega)⟩ | exact ⟨by omega, by omega, by unfold Room; constructor <;> ((try simp) <;> omega)⟩); conv => whnf) | ((first | (refine XCall.ret hop ?_) | (refine XCall.ret hev ?_)); conv => whnf) | ((with_reducible apply XBr.mk') <;> (intro h; conv => whnf)) | fail
    · rw [e1, e2] at h
      rw [if_pos h]; exact ⟨.low rfl⟩
    · rw [e1, e2] at *
      exfalso; simp [*] at hE
    · rw [e1, e2] at *
      rw [if_neg (by simp [*]), if_pos h]; exact ⟨.low rfl⟩
  · have hop := bOpenedE_c b hm hs hb
    have hE2 : planE b plan = bedE b := by unfold planE; rw [if_pos hb]
    rw [hE2]
    generalize bedE b = e at hop hb
    refine Comp.body (T := tab) (res := [.tmp 4, .tmp 5]) tab_ok [] Try.func93 rfl (by kernel_rfl) Try.ntmps93 rfl (by simp only [List.length_cons, List.length_nil]; decide) (by simp only [lowL, bedL, AV.low, lowI]; rfl) ?_; conv => whnf
    repeat' first | ((with_reducible apply XBr.bne) <;> (intro h; first | (exfalso; omega) | (conv => whnf))) | ((refine XCall.ret hop ?_); conv => whnf) | fail
    exact ⟨.low rfl⟩
def endW (b : Bd) : Nat → Nat → Int
  | 0, n => n
  | k + 1, n => if lieR b (b.months.length - (k + 1)) n - (moB b (b.months.length - (k + 1))).r < 0 then lieR b (b.months.length - (k + 1)) n - (moB b (b.months.length - (k + 1))).r else endW b k (lieR b (b.months.length - (k + 1)) n - (moB b (b.months.length - (k + 1))).r).toNat
def endR (b : Bd) : Int := endW b b.months.length (leastR b).toNat
theorem end_c (b : Bd) (ok : BedOk b) : Comp Try.prog 95 [dskA b] (.int .i64 (endR b)) := by
  have m1 := ok.m1
  have m2 := ok.m2
  have r1 := ok.r1
  have r2 := ok.r2
  have e1 : ((b.months.map moA).length : Int) = b.months.length := by rw [List.length_map]
  have hle := least_c b ok.f1 (by have := ok.f2; omega) ok.u1 (by have := ok.u2; omega)
  obtain ⟨a0, ha0⟩ : ∃ a0 : Nat, leastR b = a0 := ⟨(leastR b).toNat, by unfold leastR; omega⟩
  have ha1 : (a0 : Int) ≤ b.room := by rw [← ha0]; unfold leastR; have := ok.f2; have := ok.u1; omega
  unfold endR
  rw [ha0, Int.toNat_natCast]
  rw [ha0] at hle
  refine Comp.body (T := tab) (res := [.tmp 2]) tab_ok [] Try.func95 rfl (by kernel_rfl) Try.ntmps95 rfl (by simp only [List.length_cons, List.length_nil]; decide) (by simp only [lowL, dskL]; rfl) ?_; conv => whnf
  repeat' first | ((refine XCall.ret hle ?_); conv => whnf) | fail
  refine Walk.loopGK tab_ok [] [(0, _), (15, _), (16, _)] ⟨rfl, rfl, rfl, trivial⟩ (fun q : Nat × Nat => q.1 ≤ b.months.length ∧ (q.2 : Int) ≤ b.room ∧ endW b (b.months.length - q.1) q.2 = endW b b.months.length a0) (fun q => [(3, natA q.2), (17, natA q.1)]) (fun _ => []) (fun q => b.months.length - q.1) (0, a0) ⟨Nat.zero_le _, ha1, rfl⟩ rfl ⟨rfl, rfl, trivial⟩ ?_ (fun _ _ => Nat.le_refl _) ?_
  · intro q _
    refine ⟨by simp, fun z hz => ?_⟩
    simp only [List.cons_append, List.nil_append, List.mem_cons, List.not_mem_nil, or_false] at hz
    rcases hz with rfl | rfl | rfl | rfl | rfl <;> first | exact dskL b | exact lowMo _ | rfl
  rintro ⟨m, n⟩ ⟨hm, hn, he⟩
  dsimp only at hm hn he ⊢
  have hgc := fun (h : m < b.months.length) => gross_c b m n (moB b m).pl (moB b m).th h (by omega) (by omega) (ok.mo' h).1 (ok.mo' h).2.1 (by omega) (by omega) (by have := ok.mo' h; omega) (by have := ok.mo' h; omega) (by have := ok.mo' h; omega) (by have := ok.mo' h; omega)
  change ∀ h : m < b.months.length, Comp Try.prog _ _ (.int .i64 (lieR b m n)) at hgc
  have hlb := fun (h : m < b.months.length) => lieR_b ok (j := m) (n := n) h
  have hmo := fun (h : m < b.months.length) => ok.mo' h
  conv => whnf
  by_cases hlt : m < b.months.length
  · have hgc := hgc hlt
    have hlb := hlb hlt
    have hmo := hmo hlt
    have hst : endW b (b.months.length - m) n = if lieR b m n - (moB b m).r < 0 then lieR b m n - (moB b m).r else endW b (b.months.length - (m + 1)) (lieR b m n - (moB b m).r).toNat := by
      obtain ⟨k, hk⟩ : ∃ k, b.months.length - m = k + 1 := ⟨b.months.length - m - 1, by omega⟩
      rw [hk, endW, show b.months.length - (k + 1) = m by omega, show b.months.length - (m + 1) = k by omega]
    rw [hst] at he
    repeat' first | ((with_reducible apply XBr.dec) <;> (intro h; first | (exfalso; omega) | ((try simp only [List.length_map] at h); first | (exfalso; omega) | (conv => whnf)))) | ((first | (with_reducible refine XInt.i64 (by omega) (by omega) ?_) | ((with_reducible refine XIx.nat ?_ ?_ ?_); omega; (intro _; rfl))); conv => whnf) | (with_reducible apply XAnd.mk) | ((first | (with_reducible apply Chk.go) | (with_reducible apply ChkA.go) | (with_reducible apply ChkF.go) | (with_reducible apply ChkB.go)); conv => whnf) | (exact XSame.mk rfl rfl) | (with_reducible exact trivial) | (apply Walk.drawN (id := 5) tab_ok mixed_ok [] [] (hsU _) [_, _, _, _, _, _, _, _, _, _, _, _, _] (by kernel_rfl) rfl) | ((first | (with_reducible apply XNext.mk) | (refine XCall.ret (worst_c (moB b m)) ?_) | (refine XCall.ret hgc ?_) | (refine XInt.i64 (show _ ≤ lieR b m n - (moB b m).r by omega) (show lieR b m n - (moB b m).r ≤ _ by omega) ?_)); conv => whnf) | fail
    · rename_i h
      have h' : lieR b m n - (moB b m).r < 0 := h
      rw [if_pos h'] at he
      exact XOut.int he
    · rename_i h
      have h' : ¬ lieR b m n - (moB b m).r < 0 := h
      rw [if_neg h'] at he
      refine XAgainG.go (m + 1, (lieR b m n - (moB b m).r).toNat) [.cells [.int .i64 (moB b m).g, .int .i64 (moB b m).r, .int .i64 (moB b m).pl, .int .i64 (moB b m).ph, .int .i64 (moB b m).tl, .int .i64 (moB b m).th]] ⟨by dsimp only; omega, by dsimp only; omega, he⟩ (by dsimp only; omega) rfl ⟨rfl, rfl, rfl, ?_, rfl, trivial⟩
      exact congrArg (fun z => some (AV.int .i64 z)) (show lieR b m n - (moB b m).r = ((lieR b m n - (moB b m).r).toNat : Int) by omega)
  · obtain rfl : m = b.months.length := by omega
    rw [Nat.sub_self] at he
    repeat' first | ((with_reducible apply XBr.dec) <;> (intro h; first | (exfalso; omega) | ((try simp only [List.length_map] at h); first | (exfalso; omega) | (conv => whnf)))) | fail
    exact XOut.int he
def keepB (b : Bd) (plan : List Int) (share : Int) : Bool := decide (share ≤ endR (withPlan b plan))
def keepsA (b : Bd) (plan : List Int) (share : Int) : AV := if planE b plan ≠ 0 then .tup [.bool false, .int .i64 (planE b plan)] else if inZ share 0 b.room = false then .tup [.bool false, .int .i64 3] else .tup [.bool (keepB b plan share), .int .i64 0]
theorem keeps_c (b : Bd) (nl : Bool) (plan : List Int) (share : Int) (hm : b.months.length ≤ 100000) (hs : b.surveys.length ≤ 100000) (hl : plan.length ≤ 100000) : Comp Try.prog 22 [bedA b, .sl nl (ints plan), .int .i64 share] (keepsA b plan share) := by
  unfold keepsA
  by_cases hE : planE b plan = 0
  · obtain ⟨ok, h1, h2⟩ := planE_iff.1 hE
    have hp := planned_c b ok nl plan h1 h2
    have he := end_c (withPlan b plan) (withPlan_ok ok h2 h1).toBedOk
    have ha := bedAmount_c b share
    rw [if_neg (fun h => h hE)]
    generalize inZ share 0 b.room = r at ha
    refine Comp.body (T := tab) (res := [.tmp 6, .tmp 7]) tab_ok [] Try.func22 rfl (by kernel_rfl) Try.ntmps22 rfl (by simp only [List.length_cons, List.length_nil]; decide) (by simp only [lowL, bedL, AV.low, lowI]; rfl) ?_; conv => whnf
    repeat' first | (with_reducible apply XBr.not) | ((with_reducible apply XBr.bne) <;> (intro h; first | (exfalso; omega) | (conv => whnf))) | ((first | (refine XCall.ret hp ?_) | (refine XCall.ret ha ?_) | (refine XCall.ret he ?_)); conv => whnf) | ((with_reducible apply XBr.mk') <;> (intro h; conv => whnf)) | fail
    · rename_i h
      rw [if_neg (by rw [h]; simp)]; exact ⟨.low rfl⟩
    · rename_i h
      rw [if_pos h]; exact ⟨.low rfl⟩
  · have hp := plannedE_c b nl plan hm hs hl hE
    rw [if_pos hE]
    generalize planE b plan = e at hp hE
    refine Comp.body (T := tab) (res := [.tmp 6, .tmp 7]) tab_ok [] Try.func22 rfl (by kernel_rfl) Try.ntmps22 rfl (by simp only [List.length_cons, List.length_nil]; decide) (by simp only [lowL, bedL, AV.low, lowI]; rfl) ?_; conv => whnf
    repeat' first | ((with_reducible apply XBr.bne) <;> (intro h; first | (exfalso; omega) | (conv => whnf))) | ((refine XCall.ret hp ?_); conv => whnf) | fail
    exact ⟨.low rfl⟩
end GA
end

section
namespace GA
open Go Go.RowKit Go.Proofs
set_option pp.deepTerms true
set_option maxRecDepth 8000
set_option linter.unusedVariables false
set_option linter.unusedSimpArgs false

abbrev chsA (l : List (Int × Int)) : List AV := l.map prA
theorem mul64_c (k : Nat) (hk : k ≤ 10) : Comp Try.prog 169 [.int .u64 1, .int .u64 k] (.tup [.int .u64 0, .int .u64 k]) := by
  have hkk : k = 0 ∨ k = 1 ∨ k = 2 ∨ k = 3 ∨ k = 4 ∨ k = 5 ∨ k = 6 ∨ k = 7 ∨ k = 8 ∨ k = 9 ∨ k = 10 := by omega
  rcases hkk with rfl | rfl | rfl | rfl | rfl | rfl | rfl | rfl | rfl | rfl | rfl
  all_goals
    refine Comp.body (T := tab) (res := [.tmp 4, .tmp 5]) tab_ok [] Try.func169 rfl (by kernel_rfl) Try.ntmps169 rfl (by simp only [List.length_cons, List.length_nil]; decide) (by rfl) ?_; conv => whnf
    repeat' first | ((with_reducible refine XHold.mk ?_ ?_); (first | omega | rfl | decide | exact ⟨rfl, by decide, rfl⟩ | exact wideI _ | exact widePr _ | exact wideSk _ | (unfold Room; constructor <;> ((try simp) <;> omega)) | exact ⟨rfl, by simp only [List.length_map], by unfold Room; constructor <;> ((try simp) <;> omega)⟩ | exact ⟨by omega, by omega, by unfold Room; constructor <;> ((try simp) <;> omega)⟩); conv => whnf) | ((with_reducible apply XInt.mk); conv => whnf) | fail
    exact ⟨.low rfl⟩
theorem mul_c (k : Nat) (hk : k ≤ 10) : Comp Try.prog 96 [.int .u64 1, .int .u64 k] (.tup [.int .u64 0, .int .u64 k]) := by
  refine Comp.body (T := tab) (res := [.tmp 4, .tmp 5]) tab_ok [] Try.func96 rfl (by kernel_rfl) Try.ntmps96 rfl (by simp only [List.length_cons, List.length_nil]; decide) (by rfl) ?_; conv => whnf
  repeat' first | ((first | (with_reducible apply XBr.ff) | (refine XCall.ret (mul64_c k hk) ?_)); conv => whnf) | fail
  exact ⟨.low rfl⟩
theorem XInt.u64 {x : Int} {k : AV → Prop} (h1 : 0 ≤ x) (h2 : x ≤ 18446744073709551615) (h : k (.int .u64 x)) : XInt .u64 x k := by
  have e : IntKind.u64.wrap x = x := by simp only [IntKind.wrap, IntKind.bits, IntKind.signed]; simp; omega
  exact ⟨by rw [e]; exact h⟩
def repL (v : Int) (k c : Nat) : List Int := List.replicate c v ++ List.replicate (k - c) 0
theorem repL_ints (v : Int) (k c : Nat) : ints (repL v k c) = List.replicate c (.int .i64 v) ++ List.replicate (k - c) (.int .i64 0) := by
  unfold repL ints
  rw [List.map_append, List.map_replicate, List.map_replicate]
theorem repL_len {v : Int} {k c : Nat} (h : c ≤ k) : (repL v k c).length = k := by unfold repL; rw [List.length_append, List.length_replicate, List.length_replicate]; omega
theorem rep_splice {v : Int} {k c : Nat} (h : c ≤ k) : splice (ints (repL v k c)) c ((((ints (repL v k c)).drop 0).take c).take (k - c)) = ints (repL v k (c + min (k - c) c)) := by
  rw [repL_ints, repL_ints]
  have e1 : (((List.replicate c (AV.int .i64 v) ++ List.replicate (k - c) (AV.int .i64 0)).drop 0).take c).take (k - c) = List.replicate (min (k - c) c) (AV.int .i64 v) := by
    rw [List.drop_zero, List.take_left' (List.length_replicate ..), List.take_replicate]
  rw [e1]
  unfold splice
  rw [List.take_left' (List.length_replicate ..), List.length_replicate, List.drop_append, List.length_replicate, List.drop_of_length_le (by rw [List.length_replicate]; omega), List.nil_append, List.drop_replicate, List.replicate_append_replicate]
  congr 2
  omega
theorem repeat_c (v : Int) (k : Nat) (h1 : 1 ≤ k) (hk : k ≤ 10) : Comp Try.prog 23 [.sl false [.int .i64 v], natA k] (.sl false (ints (List.replicate k v))) := by
  refine Comp.body (T := tab) (res := [.tmp 4]) tab_ok [] Try.func23 rfl (by kernel_rfl) Try.ntmps23 rfl (by simp only [List.length_cons, List.length_nil]; decide) (by rfl) ?_; conv => whnf
  repeat' first | ((with_reducible apply XBr.ff); conv => whnf) | ((with_reducible apply XBr.dec) <;> (intro h; first | (exfalso; omega) | ((try simp only [List.length_map] at h); first | (exfalso; omega) | (conv => whnf)))) | ((with_reducible refine XInt.i64 (by omega) (by omega) ?_); conv => whnf) | ((with_reducible refine XHold.mk ?_ ?_); (first | omega | rfl | decide | exact ⟨rfl, by decide, rfl⟩ | exact wideI _ | exact widePr _ | exact wideSk _ | (unfold Room; constructor <;> ((try simp) <;> omega)) | exact ⟨rfl, by simp only [List.length_map], by unfold Room; constructor <;> ((try simp) <;> omega)⟩ | exact ⟨by omega, by omega, by unfold Room; constructor <;> ((try simp) <;> omega)⟩); conv => whnf) | ((first | (with_reducible refine XInt.u64 (by omega) (by omega) ?_) | ((show XInt IntKind.u64 ((1 : Nat) : Int) _); (with_reducible refine XInt.u64 (by omega) (by omega) ?_)) | (refine XCall.ret (mul_c k hk) ?_)); conv => whnf) | fail
  refine XHold.mk ⟨rfl, by rw [List.length_replicate]⟩ ?_
  conv => whnf
  refine XPutEls.mk ?_
  conv => whnf
  skip
  refine Walk.loopK tab_ok [] [(4, _), (7, .gr 0 k)] ⟨rfl, by rw [← Int.toNat_natCast k]; rfl, trivial⟩ (fun c : Nat => 1 ≤ c ∧ c ≤ k) (fun c => [(8, natA c)]) (fun c => [.grow 3 false (ints (repL v k c))]) (fun c => k - c) 1 ⟨Nat.le_refl 1, h1⟩ ?_ ⟨?_, trivial⟩ ?_
  · show _ = [Blk.grow _ false (splice (List.replicate ((k : Int)).toNat (AV.int .i64 0)) 0 ([AV.int .i64 v].take ((k : Int)).toNat))]
    rw [repL_ints, Int.toNat_natCast, List.take_of_length_le (by simpa using h1)]
    obtain ⟨d, rfl⟩ : ∃ d, k = d + 1 := ⟨k - 1, by omega⟩
    rw [Nat.add_sub_cancel]
    unfold splice
    simp only [List.take_zero, List.nil_append, List.length_cons, List.length_nil, List.replicate_succ, List.drop_succ_cons, List.drop_zero, Nat.zero_add, List.replicate_zero]
  · show some (AV.int .i64 _) = _
    rw [Int.toNat_natCast]
    refine congrArg (fun z => some (AV.int .i64 z)) ?_
    obtain ⟨d, rfl⟩ : ∃ d, k = d + 1 := ⟨k - 1, by omega⟩
    show ((min 1 (d + 1) : Nat) : Int) = _
    omega
  rintro c ⟨g1, g2⟩
  have hl := repL_len (v := v) g2
  have hl2 : (ints (repL v k c)).length = k := by rw [ints_len, hl]
  have hsp := rep_splice (v := v) g2
  have hw : wide 1 (List.take ((c : Int) - 0).toNat (List.drop (Int.toNat 0) (ints (repL v k c)))) = true := by
    show wide 1 (List.take _ (List.drop _ ((repL v k c).map (AV.int .i64)))) = true
    rw [← List.map_drop, ← List.map_take]; exact wideI _
  have hl3 : (List.take ((c : Int) - 0).toNat (List.drop (Int.toNat 0) (ints (repL v k c)))).length = c := by
    rw [List.length_take, List.length_drop, hl2, show Int.toNat 0 = 0 from rfl]; omega
  conv => whnf
  repeat' first | ((with_reducible apply XBr.dec) <;> (intro h; first | (exfalso; omega) | ((try simp only [List.length_map] at h); first | (exfalso; omega) | (conv => whnf)))) | ((with_reducible refine XInt.i64 (by omega) (by omega) ?_); conv => whnf) | ((with_reducible refine XHold.mk ?_ ?_); (first | omega | rfl | decide | exact ⟨rfl, by decide, rfl⟩ | exact wideI _ | exact widePr _ | exact wideSk _ | (unfold Room; constructor <;> ((try simp) <;> omega)) | exact ⟨rfl, by simp only [List.length_map], by unfold Room; constructor <;> ((try simp) <;> omega)⟩ | exact ⟨by omega, by omega, by unfold Room; constructor <;> ((try simp) <;> omega)⟩); conv => whnf) | (with_reducible apply XAnd.mk) | ((first | (with_reducible apply Chk.go) | (with_reducible apply ChkA.go) | (with_reducible apply ChkF.go) | (with_reducible apply ChkB.go)); conv => whnf) | (exact XSame.mk rfl rfl) | (with_reducible exact trivial) | (apply Walk.drawN (id := 9) tab_ok mixed_ok [] [7] (hsC [_, _]) [_, _, _, _, _, _, _, _, _, _] (by kernel_rfl) rfl) | ((first | (with_reducible apply XNext.mk) | (refine XHold.mk ⟨⟨by omega, by omega, by omega, by omega⟩, hl2, rfl⟩ ?_) | (refine XHold.mk ⟨rfl, hl2, by omega⟩ ?_) | (refine XPutEls.mk ?_)); conv => whnf) | fail
  · refine XAgain.go (c + min (k - c) c) ⟨by omega, by omega⟩ (by omega) ?_ ⟨rfl, rfl, ?_, trivial⟩
    · show [Blk.grow _ false (ints (repL v k (c + min (k - c) c)))] = [Blk.grow _ false (splice (ints (repL v k c)) _ ((List.take ((c : Int) - 0).toNat (List.drop (Int.toNat 0) (ints (repL v k c)))).take ((k : Int) - c).toNat))]
      rw [← hsp, show ((c : Int) - 0).toNat = c by omega, show ((k : Int) - c).toNat = k - c by omega]
      rfl
    · show some (AV.int .i64 _) = _
      refine congrArg (fun z => some (AV.int .i64 z)) ?_
      rw [hl3]; omega
  · obtain rfl : c = k := by omega
    have e : repL v c c = List.replicate c v := by unfold repL; rw [Nat.sub_self]; exact List.append_nil _
    rw [e] at hl2 ⊢
    exact ⟨Froz.grow rfl hl2 (lowI _)⟩
def bShareE (b : Bd) (share : Int) : Int := if bedE b ≠ 0 then bedE b else if inZ share 0 b.room = false then 3 else 0
theorem bShareE_iff {b : Bd} {share : Int} : bShareE b share = 0 ↔ BdOk b ∧ 0 ≤ share ∧ share ≤ b.room := by
  unfold bShareE
  by_cases hb : bedE b = 0
  · rw [if_neg (fun h => h hb)]
    cases hi : inZ share 0 b.room
    · rw [if_pos rfl]
      refine ⟨(fun h => by cases h), (fun h => ?_)⟩
      rw [inZ_iff.2 h.2] at hi; cases hi
    · rw [if_neg (by simp)]
      exact ⟨fun _ => ⟨(bedE_iff b).1 hb, inZ_iff.1 hi⟩, fun _ => rfl⟩
  · rw [if_pos hb]
    exact ⟨fun h => absurd h hb, fun h => (bedE_iff b).2 h.1⟩
def bSharedA (b : Bd) (share : Int) : AV := .tup [if bedE b = 0 then dskA b else .nilp, .int .i64 (bShareE b share)]
theorem bShared_c (b : Bd) (share : Int) (hm : b.months.length ≤ 100000) (hs : b.surveys.length ≤ 100000) : Comp Try.prog 92 [bedA b, .int .i64 share] (bSharedA b share) := by
  unfold bSharedA bShareE
  by_cases hb : bedE b = 0
  · have ok := (bedE_iff b).1 hb
    have ho := bOpened_c b ok
    have ha := bedAmount_c b share
    rw [if_pos hb, if_neg (fun h => h hb)]
    generalize inZ share 0 b.room = r at ha
    refine Comp.body (T := tab) (res := [.tmp 4, .tmp 5]) tab_ok [] Try.func92 rfl (by kernel_rfl) Try.ntmps92 rfl (by simp only [List.length_cons, List.length_nil]; decide) (by simp only [lowL, bedL, AV.low]; rfl) ?_; conv => whnf
    repeat' first | ((with_reducible apply XBr.tt); conv => whnf) | (with_reducible apply XBr.not) | ((with_reducible apply XBr.beq) <;> (intro h; first | (exfalso; omega) | (conv => whnf))) | ((first | (refine XCall.ret ho ?_) | (refine XCall.ret ha ?_)); conv => whnf) | ((with_reducible apply XBr.mk') <;> (intro h; conv => whnf)) | fail
    · rename_i h
      rw [if_neg (by rw [h]; simp)]; exact ⟨.low (by simp only [pack, AV.low, lowL, dskL]; rfl)⟩
    · rename_i h
      rw [if_pos h]; exact ⟨.low (by simp only [pack, AV.low, lowL, dskL]; rfl)⟩
  · have ho := bOpenedE_c b hm hs hb
    rw [if_neg hb, if_pos hb]
    generalize bedE b = e at ho hb
    refine Comp.body (T := tab) (res := [.tmp 4, .tmp 5]) tab_ok [] Try.func92 rfl (by kernel_rfl) Try.ntmps92 rfl (by simp only [List.length_cons, List.length_nil]; decide) (by simp only [lowL, bedL, AV.low]; rfl) ?_; conv => whnf
    repeat' first | ((with_reducible apply XBr.ff); conv => whnf) | ((with_reducible apply XBr.beq) <;> (intro h; first | (exfalso; omega) | (conv => whnf))) | ((refine XCall.ret ho ?_); conv => whnf) | fail
    exact ⟨.low rfl⟩
def evenF (b : Bd) (share : Int) : Nat → Int
  | 0 => -1
  | n + 1 => if keepB b (List.replicate b.months.length (n : Int)) share = true then n else evenF b share n
def evenA (b : Bd) (share : Int) : AV := if bShareE b share ≠ 0 then .tup [.int .i64 0, .int .i64 (bShareE b share)] else if evenF b share (b.room.toNat + 1) < 0 then .tup [.int .i64 0, .int .i64 6] else .tup [.int .i64 (evenF b share (b.room.toNat + 1)), .int .i64 0]
theorem even_c (b : Bd) (share : Int) (hm : b.months.length ≤ 100000) (hs : b.surveys.length ≤ 100000) : Comp Try.prog 21 [bedA b, .int .i64 share] (evenA b share) := by
  have hsh := bShared_c b share hm hs
  unfold evenA
  by_cases hE : bShareE b share = 0
  · obtain ⟨ok, h1, h2⟩ := bShareE_iff.1 hE
    have m1 := ok.m1
    have m2 := ok.m2
    have r1 := ok.r1
    have r2 := ok.r2
    have e1 : ((b.months.map moA).length : Int) = b.months.length := by rw [List.length_map]
    unfold bSharedA at hsh
    rw [hE, if_pos ((bedE_iff b).2 ok)] at hsh
    rw [if_neg (fun h => h hE)]
    refine Comp.body (T := tab) (res := [.tmp 4, .tmp 5]) tab_ok [] Try.func21 rfl (by kernel_rfl) Try.ntmps21 rfl (by simp only [List.length_cons, List.length_nil]; decide) (by simp only [lowL, bedL, AV.low]; rfl) ?_; conv => whnf
    repeat' first | ((with_reducible apply XBr.bne) <;> (intro h; first | (exfalso; omega) | (conv => whnf))) | ((first | (with_reducible refine XInt.i64 (by omega) (by omega) ?_) | (refine XCall.ret hsh ?_)); conv => whnf) | fail
    refine Walk.loopK tab_ok [] [(1, _), (2, _), (4, _), (5, _), (23, _)] ⟨rfl, rfl, rfl, rfl, rfl, trivial⟩ (fun n : Nat => (n : Int) ≤ b.room + 1) (fun n => [(8, .int .i64 (evenF b share n)), (24, natA n)]) (fun _ => []) (fun n => (b.room + 1).toNat - n) 0 (by omega) rfl ⟨rfl, rfl, trivial⟩ ?_
    intro n hn
    have hk := fun (h : (n : Int) ≤ b.room) => keeps_c b false (List.replicate b.months.length (n : Int)) share (by omega) (by omega) (by rw [List.length_replicate]; omega)
    have hkA : (n : Int) ≤ b.room → keepsA b (List.replicate b.months.length (n : Int)) share = .tup [.bool (keepB b (List.replicate b.months.length (n : Int)) share), .int .i64 0] := fun h => by
      unfold keepsA
      rw [if_neg (fun h' => h' (planE_iff.2 ⟨ok, List.length_replicate, fun x hx => by rw [List.eq_of_mem_replicate hx]; omega⟩)), if_neg (by rw [inZ_iff.2 ⟨h1, h2⟩]; simp)]
    have hr := repeat_c (n : Int) b.months.length (by omega) (by omega)
    have hev : evenF b share (n + 1) = if keepB b (List.replicate b.months.length (n : Int)) share = true then (n : Int) else evenF b share n := rfl
    conv => whnf
    by_cases hlt : (n : Int) ≤ b.room
    · have hk := hk hlt
      rw [hkA hlt] at hk
      generalize keepB b (List.replicate b.months.length (n : Int)) share = r at hk hev
      have hr' : Comp Try.prog 23 [.sl false [.int .i64 (n : Int)], .int .i64 ((b.months.map moA).length : Int)] (.sl false (ints (List.replicate b.months.length (n : Int)))) := by rw [e1]; exact hr
      repeat' first | ((with_reducible apply XBr.dec) <;> (intro h; first | (exfalso; omega) | ((try simp only [List.length_map] at h); first | (exfalso; omega) | (conv => whnf)))) | ((with_reducible refine XInt.i64 (by omega) (by omega) ?_); conv => whnf) | ((with_reducible refine XHold.mk ?_ ?_); (first | omega | rfl | decide | exact ⟨rfl, by decide, rfl⟩ | exact wideI _ | exact widePr _ | exact wideSk _ | (unfold Room; constructor <;> ((try simp) <;> omega)) | exact ⟨rfl, by simp only [List.length_map], by unfold Room; constructor <;> ((try simp) <;> omega)⟩ | exact ⟨by omega, by omega, by unfold Room; constructor <;> ((try simp) <;> omega)⟩); conv => whnf) | (with_reducible apply XAnd.mk) | ((first | (with_reducible apply Chk.go) | (with_reducible apply ChkA.go) | (with_reducible apply ChkF.go) | (with_reducible apply ChkB.go)); conv => whnf) | (exact XSame.mk rfl rfl) | (with_reducible exact trivial) | (apply Walk.drawN (id := 8) tab_ok mixed_ok [] [] (hsU _) [_, _, _, _, _, _, _, _, _, _, _, _, _, _] (by kernel_rfl) rfl) | ((first | (with_reducible apply XNext.mk) | (refine XCall.ret hr' ?_) | (refine XCall.ret hk ?_)); conv => whnf) | ((with_reducible apply XBr.mk') <;> (intro h; conv => whnf)) | fail
      · rename_i h
        rw [if_pos h] at hev
        refine XAgain.go (n + 1) (by omega) (by omega) rfl ⟨rfl, rfl, rfl, rfl, rfl, ?_, rfl, trivial⟩
        rw [hev]; rfl
      · rename_i h
        rw [if_neg (by rw [h]; simp)] at hev
        refine XAgain.go (n + 1) (by omega) (by omega) rfl ⟨rfl, rfl, rfl, rfl, rfl, ?_, rfl, trivial⟩
        rw [hev]; rfl
    · obtain rfl : n = b.room.toNat + 1 := by omega
      clear hk hkA hr hev
      generalize evenF b share (b.room.toNat + 1) = z
      repeat' first | ((with_reducible apply XBr.dec) <;> (intro h; first | (exfalso; omega) | ((try simp only [List.length_map] at h); first | (exfalso; omega) | (conv => whnf)))) | fail
      · rename_i h
        rw [if_pos h]; exact ⟨.low rfl⟩
      · rename_i h
        rw [if_neg h]; exact ⟨.low rfl⟩
  · rw [if_pos hE]
    have hE2 : ∃ d, bSharedA b share = .tup [d, .int .i64 (bShareE b share)] ∧ d.low 0 = true := by
      unfold bSharedA
      refine ⟨_, rfl, ?_⟩
      split
      · exact dskL b
      · rfl
    obtain ⟨d, hd, hd2⟩ := hE2
    rw [hd] at hsh
    generalize bShareE b share = e at hsh hE
    refine Comp.body (T := tab) (res := [.tmp 4, .tmp 5]) tab_ok [] Try.func21 rfl (by kernel_rfl) Try.ntmps21 rfl (by simp only [List.length_cons, List.length_nil]; decide) (by simp only [lowL, bedL, AV.low]; rfl) ?_; conv => whnf
    repeat' first | ((with_reducible apply XBr.bne) <;> (intro h; first | (exfalso; omega) | (conv => whnf))) | ((refine XCall.ret hsh ?_); conv => whnf) | fail
    exact ⟨.low rfl⟩
theorem chs_low {n : Nat} (l : List (Int × Int)) : lowL n (chsA l) = true := lowL_map (fun _ => rfl) l
end GA
end

section
namespace GA
open Go Go.RowKit Go.Proofs
set_option pp.deepTerms true
set_option maxRecDepth 8000
set_option linter.unusedVariables false
set_option linter.unusedSimpArgs false

def flrStep (b : Bd) (m : Nat) (v : Int) : Option Nat := (List.range (b.room.toNat + 1)).find? fun n => decide (v ≤ lieR b m n)
def flrL (b : Bd) (share : Int) : Nat → Option (List Int)
  | 0 => some [share]
  | k + 1 => match flrL b share k with
    | none => none
    | some l => match flrStep b (b.months.length - (k + 1)) (l.headD 0) with
      | none => none
      | some n => some ((n : Int) :: l)
theorem flrL_none {b : Bd} {share : Int} {k : Nat} (h : flrL b share k = none) : ∀ d, flrL b share (k + d) = none
  | 0 => h
  | d + 1 => by show flrL b share (k + d + 1) = none; rw [flrL, flrL_none h d]
theorem flrL_len {b : Bd} {share : Int} : ∀ {k : Nat} {l : List Int}, flrL b share k = some l → l.length = k + 1
  | 0, l, h => by rw [flrL] at h; cases h; rfl
  | k + 1, l, h => by
    rw [flrL] at h
    cases h1 : flrL b share k with
    | none => rw [h1] at h; cases h
    | some l1 =>
      rw [h1] at h; dsimp only at h
      cases h2 : flrStep b (b.months.length - (k + 1)) (l1.headD 0) with
      | none => rw [h2] at h; cases h
      | some n => rw [h2] at h; cases h; rw [List.length_cons, flrL_len h1]
def flrA (o : Option (List Int)) : AV := match o with | none => .sl true [] | some l => .sl false (ints l)
theorem bFloor_c (b : Bd) (ok : BedOk b) (share : Int) : Comp Try.prog 121 [dskA b, .int .i64 share] (flrA (flrL b share b.months.length)) := by
  have m1 := ok.m1
  have m2 := ok.m2
  have r1 := ok.r1
  have r2 := ok.r2
  have e1 : ((b.months.map moA).length : Int) = b.months.length := by rw [List.length_map]
  refine Comp.body (T := tab) (res := [.tmp 4]) tab_ok [9, 61] Try.func121 rfl (by kernel_rfl) Try.ntmps121 rfl (by simp only [List.length_cons, List.length_nil]; decide) (by simp only [lowL, dskL, AV.low]; rfl) ?_; conv => whnf
  repeat' first | ((with_reducible refine XInt.i64 (by omega) (by omega) ?_); conv => whnf) | ((with_reducible refine XHold.mk ?_ ?_); (first | omega | rfl | decide | exact ⟨rfl, by decide, rfl⟩ | exact wideI _ | exact widePr _ | exact wideSk _ | (unfold Room; constructor <;> ((try simp) <;> omega)) | exact ⟨rfl, by simp only [List.length_map], by unfold Room; constructor <;> ((try simp) <;> omega)⟩ | exact ⟨by omega, by omega, by unfold Room; constructor <;> ((try simp) <;> omega)⟩); conv => whnf) | fail
  refine Walk.loopGK tab_ok [9, 61] [(0, _)] ⟨rfl, trivial⟩ (fun q : Nat × Int × List Int => q.1 ≤ b.months.length ∧ flrL b share q.1 = some (q.2.1 :: q.2.2)) (fun q => [(4, .sl true []), (5, .gr 0 (q.2.2.length + 1)), (6, .int .i64 ((b.months.length : Int) - 1 - q.1))]) (fun q => [.grow 3 false (ints (q.2.1 :: q.2.2))]) (fun q => b.months.length - q.1) (0, share, []) ⟨Nat.zero_le _, rfl⟩ rfl ⟨rfl, rfl, congrArg (fun z => some (AV.int .i64 z)) (by dsimp only; omega), trivial⟩ ?_ (fun _ _ => (show (1 : Nat) ≤ 1 from Nat.le_refl 1)) ?_
  · intro q _
    refine ⟨fun z hz => ?_, fun z hz => ?_⟩
    · rw [List.mem_singleton] at hz; subst hz; exact lowI _
    · simp only [List.cons_append, List.nil_append, List.mem_cons, List.not_mem_nil, or_false] at hz
      rcases hz with rfl | rfl | rfl | rfl <;> first | exact dskL b | rfl
  rintro ⟨k, v, ys⟩ ⟨hk, hf⟩
  dsimp only at hk hf ⊢
  have hlen := flrL_len hf
  simp only [List.length_cons] at hlen
  conv => whnf
  by_cases hkm : k < b.months.length
  · obtain ⟨m, hm⟩ : ∃ m : Nat, (b.months.length : Int) - 1 - k = m := ⟨b.months.length - 1 - k, by omega⟩
    have hm1 : m < b.months.length := by omega
    have hmo := ok.mo' hm1
    have hnx : flrL b share (k + 1) = match flrStep b m v with | none => none | some n => some ((n : Int) :: v :: ys) := by
      rw [flrL, hf]
      dsimp only
      rw [show b.months.length - (k + 1) = m by omega]; rfl
    rw [hm]
    repeat' first | ((with_reducible apply XBr.dec) <;> (intro h; first | (exfalso; omega) | ((try simp only [List.length_map] at h); first | (exfalso; omega) | (conv => whnf)))) | fail
    refine Walk.loopK tab_ok [9, 61] [(0, _), (4, _), (5, _), (6, _)] ⟨rfl, rfl, rfl, rfl, trivial⟩ (fun n : Nat => (n : Int) ≤ b.room + 1 ∧ ∀ q, q < n → lieR b m q < v) (fun n => [(7, natA n)]) (fun _ => [.grow 3 false (ints (v :: ys))]) (fun n => (b.room + 1).toNat - n) 0 ⟨by omega, fun q hq => by omega⟩ rfl ⟨rfl, trivial⟩ ?_
    rintro n ⟨hn, hq⟩
    have hgc := fun (h : (n : Int) ≤ b.room) => gross_c b m n (moB b m).pl (moB b m).th hm1 (by omega) (by omega) hmo.1 hmo.2.1 (by omega) (by omega) (by omega) (by omega) (by omega) (by omega)
    change (n : Int) ≤ b.room → Comp Try.prog _ _ (.int .i64 (lieR b m n)) at hgc
    have hlb := lieR_b ok (j := m) (n := n) hm1
    conv => whnf
    by_cases hle : (n : Int) ≤ b.room
    · have hgc := hgc hle
      repeat' first | ((with_reducible apply XBr.dec) <;> (intro h; first | (exfalso; omega) | ((try simp only [List.length_map] at h); first | (exfalso; omega) | (conv => whnf)))) | ((with_reducible refine XInt.i64 (by omega) (by omega) ?_); conv => whnf) | ((with_reducible refine XHold.mk ?_ ?_); (first | omega | rfl | decide | exact ⟨rfl, by decide, rfl⟩ | exact wideI _ | exact widePr _ | exact wideSk _ | (unfold Room; constructor <;> ((try simp) <;> omega)) | exact ⟨rfl, by simp only [List.length_map], by unfold Room; constructor <;> ((try simp) <;> omega)⟩ | exact ⟨by omega, by omega, by unfold Room; constructor <;> ((try simp) <;> omega)⟩); conv => whnf) | (((with_reducible refine XIx.nat ?_ ?_ ?_); omega; (intro _; rfl)); conv => whnf) | (with_reducible apply XAnd.mk) | ((first | (with_reducible apply Chk.go) | (with_reducible apply ChkA.go) | (with_reducible apply ChkF.go) | (with_reducible apply ChkB.go)); conv => whnf) | (exact XSame.mk rfl rfl) | (with_reducible exact trivial) | (apply Walk.drawN (id := 6) tab_ok mixed_ok [9, 61] [] (hsU _) [_, _, _, _, _, _, _, _, _, _, _, _, _, _, _, _, _, _, _, _, _, _, _, _, _, _, _, _, _] (by kernel_rfl) rfl) | ((first | (with_reducible apply XNext.mk) | (refine XCall.ret (worst_c (moB b m)) ?_) | (refine XCall.ret hgc ?_) | (refine XHold.mk ⟨by rw [ints_len]; rfl, rfl, by omega, by omega⟩ ?_) | (refine XGet.mk (by rw [ints_len]; rfl) (by omega) ?_)); conv => whnf) | fail
      · exact XAgain.go (n + 1) ⟨by omega, fun q hqn => by
          rcases Nat.lt_or_ge q n with h1 | h1
          · exact hq q h1
          · obtain rfl : q = n := by omega
            assumption⟩ (by omega) rfl ⟨rfl, rfl, rfl, rfl, rfl, trivial⟩
      · rename_i hnv
        have hst : flrStep b m v = some n := by
          refine List.find?_range_eq_some.2 ⟨?_, List.mem_range.2 (by omega), fun q h => ?_⟩
          · rw [decide_eq_true_eq]; exact Int.not_lt.1 hnv
          · have := hq q h; simp; omega
        rw [hst] at hnx
        refine XCall.insert (p := 0) rfl rfl (by decide) (by rfl) (by omega) (by omega) (by omega) ?_
        conv => whnf
        repeat' first | ((with_reducible refine XInt.i64 (by omega) (by omega) ?_); conv => whnf) | fail
        refine XAgainG.go (k + 1, (n : Int), v :: ys) [.grow 3 false [natA n]] ⟨by dsimp only; omega, hnx⟩ (by dsimp only; omega) rfl ⟨rfl, rfl, rfl, ?_, trivial⟩
        exact congrArg (fun z => some (AV.int .i64 z)) (by dsimp only; omega)
    · have hst : flrStep b m v = none := List.find?_range_eq_none.2 fun q h => by have := hq q (by omega); simp; omega
      rw [hst] at hnx
      have hno : flrL b share b.months.length = none := by
        have := flrL_none hnx (b.months.length - (k + 1))
        rwa [show k + 1 + (b.months.length - (k + 1)) = b.months.length by omega] at this
      rw [hno]
      repeat' first | ((with_reducible apply XBr.ff); conv => whnf) | ((with_reducible apply XBr.dec) <;> (intro h; first | (exfalso; omega) | ((try simp only [List.length_map] at h); first | (exfalso; omega) | (conv => whnf)))) | (with_reducible apply XAnd.mk) | ((first | (with_reducible apply Chk.go) | (with_reducible apply ChkA.go) | (with_reducible apply ChkF.go) | (with_reducible apply ChkB.go)); conv => whnf) | (exact XSame.mk rfl rfl) | (with_reducible exact trivial) | (apply Walk.drawN (id := 6) tab_ok mixed_ok [9, 61] [] (hsU _) [_, _, _, _, _, _, _, _, _, _, _, _, _, _, _, _, _, _, _, _, _, _, _, _, _, _, _, _, _] (by kernel_rfl) rfl) | ((with_reducible apply XNext.mk); conv => whnf) | fail
      exact ⟨.low rfl⟩
  · obtain rfl : k = b.months.length := by omega
    repeat' first | ((with_reducible apply XBr.dec) <;> (intro h; first | (exfalso; omega) | ((try simp only [List.length_map] at h); first | (exfalso; omega) | (conv => whnf)))) | fail
    rw [hf]
    exact ⟨Froz.grow rfl (by rw [ints_len]; rfl) (lowI _)⟩
def floorA (b : Bd) (share : Int) : AV := if bShareE b share ≠ 0 then .tup [.sl true [], .int .i64 (bShareE b share)] else match flrL b share b.months.length with | none => .tup [.sl true [], .int .i64 6] | some l => .tup [.sl false (ints l), .int .i64 0]
theorem bSharedA_eq (b : Bd) (share : Int) : ∃ d, bSharedA b share = .tup [d, .int .i64 (bShareE b share)] ∧ d.low 0 = true := by
  unfold bSharedA
  refine ⟨_, rfl, ?_⟩
  split
  · exact dskL b
  · rfl
theorem bSharedA_ok {b : Bd} {share : Int} (h : bShareE b share = 0) : bSharedA b share = .tup [dskA b, .int .i64 0] := by
  unfold bSharedA
  rw [h, if_pos ((bedE_iff b).2 (bShareE_iff.1 h).1)]
theorem floor_all_c (b : Bd) (share : Int) (hm : b.months.length ≤ 100000) (hs : b.surveys.length ≤ 100000) : Comp Try.prog 42 [bedA b, .int .i64 share] (floorA b share) := by
  have hsh := bShared_c b share hm hs
  unfold floorA
  by_cases hE : bShareE b share = 0
  · obtain ⟨ok, h1, h2⟩ := bShareE_iff.1 hE
    have hf := bFloor_c b ok.toBedOk share
    rw [bSharedA_ok hE] at hsh
    rw [if_neg (fun h => h hE)]
    generalize flrL b share b.months.length = o at hf
    cases o
    · refine Comp.body (T := tab) (res := [.tmp 4, .tmp 5]) tab_ok [] Try.func42 rfl (by kernel_rfl) Try.ntmps42 rfl (by simp only [List.length_cons, List.length_nil]; decide) (by simp only [lowL, bedL, AV.low]; rfl) ?_; conv => whnf
      repeat' first | ((with_reducible apply XBr.tt); conv => whnf) | ((with_reducible apply XBr.bne) <;> (intro h; first | (exfalso; omega) | (conv => whnf))) | ((first | (refine XCall.ret hsh ?_) | (refine XCall.ret hf ?_)); conv => whnf) | fail
      exact ⟨.low rfl⟩
    · refine Comp.body (T := tab) (res := [.tmp 4, .tmp 5]) tab_ok [] Try.func42 rfl (by kernel_rfl) Try.ntmps42 rfl (by simp only [List.length_cons, List.length_nil]; decide) (by simp only [lowL, bedL, AV.low]; rfl) ?_; conv => whnf
      repeat' first | ((with_reducible apply XBr.ff); conv => whnf) | ((with_reducible apply XBr.bne) <;> (intro h; first | (exfalso; omega) | (conv => whnf))) | ((first | (refine XCall.ret hsh ?_) | (refine XCall.ret hf ?_)); conv => whnf) | fail
      exact ⟨.low (by simp only [pack, AV.low, lowL, flrA, lowI]; rfl)⟩
  · rw [if_pos hE]
    obtain ⟨d, hd, hd2⟩ := bSharedA_eq b share
    rw [hd] at hsh
    generalize bShareE b share = e at hsh hE
    refine Comp.body (T := tab) (res := [.tmp 4, .tmp 5]) tab_ok [] Try.func42 rfl (by kernel_rfl) Try.ntmps42 rfl (by simp only [List.length_cons, List.length_nil]; decide) (by simp only [lowL, bedL, AV.low]; rfl) ?_; conv => whnf
    repeat' first | ((with_reducible apply XBr.bne) <;> (intro h; first | (exfalso; omega) | (conv => whnf))) | ((refine XCall.ret hsh ?_); conv => whnf) | fail
    exact ⟨.low rfl⟩
def leaveA (b : Bd) (m a sp st : Int) : AV :=
  if bedE b ≠ 0 then .tup [.int .i64 0, .int .i64 (bedE b)]
  else if inZ m 0 ((b.months.length : Int) - 1) = false then .tup [.int .i64 0, .int .i64 1]
  else if inZ a 0 b.room = false then .tup [.int .i64 0, .int .i64 3]
  else if chanceB (moB b m.toNat) sp st = false then .tup [.int .i64 0, .int .i64 8]
  else if grossR b.room (moB b m.toNat).g a sp st - (moB b m.toNat).r < 0 then .tup [.int .i64 0, .int .i64 9]
  else .tup [.int .i64 (grossR b.room (moB b m.toNat).g a sp st - (moB b m.toNat).r), .int .i64 0]
theorem leaves_all_c (b : Bd) (m a sp st : Int) (hm : b.months.length ≤ 100000) (hs : b.surveys.length ≤ 100000) : Comp Try.prog 38 [bedA b, .int .i64 m, .int .i64 a, chA sp st] (leaveA b m a sp st) := by
  unfold leaveA
  have e1 : ((b.months.map moA).length : Int) = b.months.length := by rw [List.length_map]
  by_cases hb : bedE b = 0
  · have ok := (bedE_iff b).1 hb
    have r1 := ok.r1
    have r2 := ok.r2
    have ho := bOpened_c b ok
    have hmn := bMonth_c b m hm
    have ham := bedAmount_c b a
    rw [if_neg (fun h => h hb)]
    by_cases h1 : inZ m 0 ((b.months.length : Int) - 1) = false
    · rw [h1] at hmn
      rw [if_pos h1]
      refine Comp.body (T := tab) (res := [.tmp 8, .tmp 9]) tab_ok [] Try.func38 rfl (by kernel_rfl) Try.ntmps38 rfl (by simp only [List.length_cons, List.length_nil]; decide) (by simp only [lowL, bedL, AV.low]; rfl) ?_; conv => whnf
      repeat' first | ((with_reducible apply XBr.ff); conv => whnf) | (with_reducible apply XBr.not) | ((with_reducible apply XBr.bne) <;> (intro h; first | (exfalso; omega) | (conv => whnf))) | ((first | (refine XCall.ret ho ?_) | (refine XCall.ret hmn ?_)); conv => whnf) | fail
      exact ⟨.low rfl⟩
    · rw [if_neg h1]
      rw [Bool.not_eq_false] at h1
      rw [h1] at hmn
      by_cases h2 : inZ a 0 b.room = false
      · rw [h2] at ham
        rw [if_pos h2]
        refine Comp.body (T := tab) (res := [.tmp 8, .tmp 9]) tab_ok [] Try.func38 rfl (by kernel_rfl) Try.ntmps38 rfl (by simp only [List.length_cons, List.length_nil]; decide) (by simp only [lowL, bedL, AV.low]; rfl) ?_; conv => whnf
        repeat' first | ((first | (with_reducible apply XBr.tt) | (with_reducible apply XBr.ff)); conv => whnf) | (with_reducible apply XBr.not) | ((with_reducible apply XBr.bne) <;> (intro h; first | (exfalso; omega) | (conv => whnf))) | ((first | (refine XCall.ret ho ?_) | (refine XCall.ret hmn ?_) | (refine XCall.ret ham ?_)); conv => whnf) | fail
        exact ⟨.low rfl⟩
      · rw [if_neg h2]
        rw [Bool.not_eq_false] at h2
        rw [h2] at ham
        obtain ⟨q1, q2⟩ := inZ_iff.1 h1
        obtain ⟨q3, q4⟩ := inZ_iff.1 h2
        obtain ⟨k, rfl⟩ : ∃ k : Nat, m = k := ⟨m.toNat, by omega⟩
        rw [Int.toNat_natCast]
        have hk : k < b.months.length := by omega
        have hmo := ok.mo' hk
        have hch := bChance_c (moB b k) sp st
        by_cases h3 : chanceB (moB b k) sp st = false
        · rw [h3] at hch
          rw [if_pos h3]
          refine Comp.body (T := tab) (res := [.tmp 8, .tmp 9]) tab_ok [] Try.func38 rfl (by kernel_rfl) Try.ntmps38 rfl (by simp only [List.length_cons, List.length_nil]; decide) (by simp only [lowL, bedL, AV.low]; rfl) ?_; conv => whnf
          repeat' first | ((first | (with_reducible apply XBr.tt) | (with_reducible apply XBr.ff)); conv => whnf) | (with_reducible apply XBr.not) | ((with_reducible apply XBr.bne) <;> (intro h; first | (exfalso; omega) | (conv => whnf))) | (((with_reducible refine XIx.nat ?_ ?_ ?_); omega; (intro _; rfl)); conv => whnf) | (with_reducible apply XAnd.mk) | ((first | (with_reducible apply Chk.go) | (with_reducible apply ChkA.go) | (with_reducible apply ChkF.go) | (with_reducible apply ChkB.go)); conv => whnf) | (exact XSame.mk rfl rfl) | (with_reducible exact trivial) | (apply Walk.drawN (id := 8) tab_ok mixed_ok [] [] (hsU _) [_, _, _, _, _, _, _, _, _] (by kernel_rfl) rfl) | ((first | (with_reducible apply XNext.mk) | (refine XCall.ret ho ?_) | (refine XCall.ret hmn ?_) | (refine XCall.ret ham ?_) | (refine XCall.ret hch ?_)); conv => whnf) | fail
          exact ⟨.low rfl⟩
        · rw [if_neg h3]
          rw [Bool.not_eq_false] at h3
          rw [h3] at hch
          unfold chanceB at h3
          rw [Bool.and_eq_true, inZ_iff, inZ_iff] at h3
          have hg := gross_c b k a sp st hk q3 (by omega) hmo.1 hmo.2.1 (by omega) (by omega) (by omega) (by omega) (by omega) (by omega)
          change Comp Try.prog _ _ (.int .i64 (grossR b.room (moB b k).g a sp st)) at hg
          have hgb := grossR_le (room := b.room) (g := (moB b k).g) (a := a) (sp := sp) (st := st) (by omega) (by omega)
          generalize grossR b.room (moB b k).g a sp st = z at hg hgb
          refine Comp.body (T := tab) (res := [.tmp 8, .tmp 9]) tab_ok [] Try.func38 rfl (by kernel_rfl) Try.ntmps38 rfl (by simp only [List.length_cons, List.length_nil]; decide) (by simp only [lowL, bedL, AV.low]; rfl) ?_; conv => whnf
          repeat' first | ((with_reducible apply XBr.tt); conv => whnf) | (with_reducible apply XBr.not) | ((with_reducible apply XBr.dec) <;> (intro h; first | (exfalso; omega) | ((try simp only [List.length_map] at h); first | (exfalso; omega) | (conv => whnf)))) | ((with_reducible apply XBr.bne) <;> (intro h; first | (exfalso; omega) | (conv => whnf))) | (((with_reducible refine XIx.nat ?_ ?_ ?_); omega; (intro _; rfl)); conv => whnf) | (with_reducible apply XAnd.mk) | ((first | (with_reducible apply Chk.go) | (with_reducible apply ChkA.go) | (with_reducible apply ChkF.go) | (with_reducible apply ChkB.go)); conv => whnf) | (exact XSame.mk rfl rfl) | (with_reducible exact trivial) | (apply Walk.drawN (id := 8) tab_ok mixed_ok [] [] (hsU _) [_, _, _, _, _, _, _, _, _] (by kernel_rfl) rfl) | (apply Walk.drawN (id := 10) tab_ok mixed_ok [] [] (hsU _) [_, _, _, _, _, _, _, _, _, _, _, _, _, _, _, _] (by kernel_rfl) rfl) | ((first | (with_reducible apply XNext.mk) | (refine XCall.ret ho ?_) | (refine XCall.ret hmn ?_) | (refine XCall.ret ham ?_) | (refine XCall.ret hch ?_) | (refine XCall.ret hg ?_) | (refine XInt.i64 (show _ ≤ z - (moB b k).r by omega) (show z - (moB b k).r ≤ _ by omega) ?_)); conv => whnf) | fail
          · rename_i h
            have h' : z - (moB b k).r < 0 := h
            rw [if_pos h']; exact ⟨.low rfl⟩
          · rename_i h
            have h' : ¬ z - (moB b k).r < 0 := h
            rw [if_neg h']; exact ⟨.low rfl⟩
  · have ho := bOpenedE_c b hm hs hb
    rw [if_pos hb]
    generalize bedE b = e at ho hb
    refine Comp.body (T := tab) (res := [.tmp 8, .tmp 9]) tab_ok [] Try.func38 rfl (by kernel_rfl) Try.ntmps38 rfl (by simp only [List.length_cons, List.length_nil]; decide) (by simp only [lowL, bedL, AV.low]; rfl) ?_; conv => whnf
    repeat' first | ((with_reducible apply XBr.bne) <;> (intro h; first | (exfalso; omega) | (conv => whnf))) | ((refine XCall.ret ho ?_); conv => whnf) | fail
    exact ⟨.low rfl⟩
end GA
end

section
namespace GA
open Go Go.RowKit Go.Proofs
set_option pp.deepTerms true
set_option maxRecDepth 8000
set_option linter.unusedVariables false
set_option linter.unusedSimpArgs false

def lstF (F : Nat → Bool) (n : Nat) : List Int := ((List.range n).filter F).map fun i : Nat => (i : Int)
theorem lstF_succ (F : Nat → Bool) (n : Nat) : lstF F (n + 1) = if F n = true then lstF F n ++ [(n : Int)] else lstF F n := by
  unfold lstF
  rw [List.range_succ, List.filter_append, List.map_append]
  by_cases h : F n = true
  · rw [if_pos h, List.filter_cons, if_pos h]; rfl
  · rw [if_neg h, List.filter_cons, if_neg h]; exact List.append_nil _
theorem lstF_len (F : Nat → Bool) (n : Nat) : (lstF F n).length ≤ n := by
  unfold lstF
  rw [List.length_map]; exact Nat.le_trans (List.length_filter_le _ _) (by simp)
theorem lstF_mem {F : Nat → Bool} {n : Nat} {x : Int} : x ∈ lstF F n ↔ ∃ i : Nat, i < n ∧ F i = true ∧ x = i := by
  unfold lstF
  simp only [List.mem_map, List.mem_filter, List.mem_range]
  constructor
  · rintro ⟨i, ⟨h1, h2⟩, rfl⟩; exact ⟨i, h1, h2, rfl⟩
  · rintro ⟨i, h1, h2, rfl⟩; exact ⟨i, ⟨h1, h2⟩, rfl⟩
def amA (F : Nat → Bool) : AV := .agg ((vecF 121 F).map .bool)
theorem amL {n : Nat} (F : Nat → Bool) : (amA F).low n = true := vec_low fun _ => rfl
theorem amList_c (F : Nat → Bool) : Comp Try.prog 144 [amA F] (slA (lstF F 121)) := by
  refine Comp.body (T := tab) (res := [.tmp 2]) tab_ok [] Try.func144 rfl (by kernel_rfl) Try.ntmps144 rfl (by simp only [List.length_cons, List.length_nil]; decide) (by simp only [lowL, amL]; rfl) ?_; conv => whnf
  repeat' first | ((refine xtk_vec rfl ?_); conv => whnf) | fail
  refine Walk.nilgr 3 3 rfl ?_
  refine Walk.loopK tab_ok [] [(2, _), (6, _)] ⟨rfl, rfl, trivial⟩ (fun n : Nat => n ≤ 121) (fun n => [(3, .gr 0 (lstF F n).length), (7, natA n)]) (fun n => [.grow 3 (lstF F n).isEmpty (ints (lstF F n))]) (fun n => 121 - n) 0 (Nat.zero_le _) rfl ⟨rfl, rfl, trivial⟩ ?_
  intro n hn
  have hs := lstF_succ F n
  have hl := lstF_len F n
  have hl2 : (ints (lstF F n)).length = (lstF F n).length := ints_len _
  generalize hc : F n = s at hs
  conv => whnf
  repeat' first | ((with_reducible apply XBr.dec) <;> (intro h; first | (exfalso; omega) | ((try simp only [List.length_map] at h); first | (exfalso; omega) | (conv => whnf)))) | ((with_reducible refine XInt.i64 (by omega) (by omega) ?_); conv => whnf) | ((with_reducible refine XHold.mk ?_ ?_); (first | omega | rfl | decide | exact ⟨rfl, by decide, rfl⟩ | exact wideI _ | exact widePr _ | exact wideSk _ | (unfold Room; constructor <;> ((try simp) <;> omega)) | exact ⟨rfl, by simp only [List.length_map], by unfold Room; constructor <;> ((try simp) <;> omega)⟩ | exact ⟨by omega, by omega, by unfold Room; constructor <;> ((try simp) <;> omega)⟩); conv => whnf) | (((refine xdrop_vec n (by omega) (by omega) ?_); rw [hc]); conv => whnf) | ((with_reducible apply XBr.mk') <;> (intro h; conv => whnf)) | fail
  all_goals try subst h
  · rw [if_pos rfl] at hs
    refine XAgain.go (n + 1) (by omega) (by omega) ?_ ⟨rfl, rfl, ?_, rfl, trivial⟩
    · rw [hs]
      show [Blk.grow _ (lstF F n ++ [(n : Int)]).isEmpty ((lstF F n ++ [(n : Int)]).map (AV.int .i64))] = _
      rw [isEmpty_app, List.map_append]; rfl
    · show some (AV.gr 0 ((lstF F n).length + 1)) = _
      rw [hs, List.length_append]; rfl
  · rw [if_neg (by simp)] at hs
    exact XAgain.go (n + 1) (by omega) (by omega) (by rw [hs]) ⟨rfl, rfl, by rw [hs]; rfl, rfl, trivial⟩
  · obtain rfl : n = 121 := by omega
    exact ⟨Froz.grow rfl hl2 (lowI _)⟩
def noneB (b : Bd) (p : Nat → Bool) : Bool := vecF 121 (cnB b p 0) == List.replicate 121 false
theorem noneB_iff {b : Bd} {p : Nat → Bool} : noneB b p = true ↔ ∀ n, n < 121 → cnB b p 0 n = false := by
  unfold noneB
  rw [beq_iff_eq, ← vecF_replicate]
  constructor
  · intro h n hn
    have := congrArg (fun l => l.getD n true) h
    simpa only [vecF_get _ hn] using this
  · exact fun h => vecF_congr h
theorem noneB_dec (b : Bd) (p : Nat → Bool) : noneB b p = (List.range 121).all fun n => !cnB b p 0 n := by
  rw [Bool.eq_iff_iff, noneB_iff, List.all_eq_true]
  simp
theorem xeqb0 {F : Nat → Bool} {k : Bool → Prop} (h : k (vecF 121 F == List.replicate 121 false)) : XEqB ((vecF 121 F).map .bool) (List.replicate 121 (.bool false)) 1048697 k :=
  ⟨vecF 121 F, List.replicate 121 false, rfl, by rw [List.map_replicate], by rw [vecF_len, List.length_replicate], by rw [vecF_len], h⟩
def alwP : Nat → Bool := fun _ => true
def canA (b : Bd) : AV := .sl false ((matF (b.months.length + 1) 121 (cnB b alwP)).map (arrF .bool))
theorem canA_low {n : Nat} (b : Bd) : (canA b).low n = true := mat_low fun _ => rfl
def possE (b : Bd) : Int := if bedE b ≠ 0 then bedE b else if noneB b alwP = true then 7 else 0
theorem possE_iff {b : Bd} : possE b = 0 ↔ BdOk b ∧ noneB b alwP = false := by
  unfold possE
  by_cases hb : bedE b = 0
  · rw [if_neg (fun h => h hb)]
    cases noneB b alwP
    · rw [if_neg (by simp)]; exact ⟨fun _ => ⟨(bedE_iff b).1 hb, rfl⟩, fun _ => rfl⟩
    · rw [if_pos rfl]; exact ⟨(fun h => by cases h), (fun h => by cases h.2)⟩
  · rw [if_pos hb]; exact ⟨fun h => absurd h hb, fun h => (bedE_iff b).2 h.1⟩
def possA (b : Bd) : AV := if possE b ≠ 0 then .tup [.nilp, .sl true [], .int .i64 (possE b)] else .tup [dskA b, canA b, .int .i64 0]
theorem possible_c (b : Bd) (hm : b.months.length ≤ 100000) (hs : b.surveys.length ≤ 100000) : Comp Try.prog 143 [bedA b] (possA b) := by
  unfold possA
  by_cases hb : bedE b = 0
  · have ok := (bedE_iff b).1 hb
    have ho := bOpened_c b ok
    have hc := can_c b ok 180 [] alwP (allF_c b)
    cases hn : noneB b alwP
    · have hn' : (vecF 121 (cnB b alwP 0) == List.replicate 121 false) = false := hn
      rw [possE_iff.2 ⟨ok, hn⟩, if_neg (fun h => h rfl)]
      refine Comp.body (T := tab) (res := [.tmp 2, .tmp 3, .tmp 4]) tab_ok [] Try.func143 rfl (by kernel_rfl) Try.ntmps143 rfl (by simp only [List.length_cons, List.length_nil]; decide) (by simp only [lowL, bedL]; rfl) ?_; conv => whnf
      repeat' first | ((with_reducible apply XBr.bne) <;> (intro h; first | (exfalso; omega) | (conv => whnf))) | ((first | (refine XCall.ret ho ?_) | (refine XCall.ret bAll_c ?_) | (refine XCall.ret hc ?_) | (refine XIx.mat 0 rfl (by omega) rfl ?_) | (refine xtk_vec rfl ?_) | (refine xeqb0 ?_) | (with_reducible refine XBr.no hn' ?_)); conv => whnf) | fail
      exact ⟨.low (by show lowL 0 [dskA b, canA b, _] = true; simp only [lowL, dskL, canA_low]; rfl)⟩
    · have hn' : (vecF 121 (cnB b alwP 0) == List.replicate 121 false) = true := hn
      have hE : possE b = 7 := by unfold possE; rw [if_neg (fun h => h hb), if_pos hn]
      rw [hE, if_pos (by decide)]
      refine Comp.body (T := tab) (res := [.tmp 2, .tmp 3, .tmp 4]) tab_ok [] Try.func143 rfl (by kernel_rfl) Try.ntmps143 rfl (by simp only [List.length_cons, List.length_nil]; decide) (by simp only [lowL, bedL]; rfl) ?_; conv => whnf
      repeat' first | ((with_reducible apply XBr.bne) <;> (intro h; first | (exfalso; omega) | (conv => whnf))) | ((first | (refine XCall.ret ho ?_) | (refine XCall.ret bAll_c ?_) | (refine XCall.ret hc ?_) | (refine XIx.mat 0 rfl (by omega) rfl ?_) | (refine xtk_vec rfl ?_) | (refine xeqb0 ?_) | (with_reducible refine XBr.yes hn' ?_)); conv => whnf) | fail
      exact ⟨.low rfl⟩
  · have ho := bOpenedE_c b hm hs hb
    have hE : possE b = bedE b := by unfold possE; rw [if_pos hb]
    rw [hE, if_pos hb]
    generalize bedE b = e at ho hb
    refine Comp.body (T := tab) (res := [.tmp 2, .tmp 3, .tmp 4]) tab_ok [] Try.func143 rfl (by kernel_rfl) Try.ntmps143 rfl (by simp only [List.length_cons, List.length_nil]; decide) (by simp only [lowL, bedL]; rfl) ?_; conv => whnf
    repeat' first | ((with_reducible apply XBr.bne) <;> (intro h; first | (exfalso; omega) | (conv => whnf))) | ((refine XCall.ret ho ?_); conv => whnf) | fail
    exact ⟨.low rfl⟩
theorem ah_next {b : Bd} {p : Nat → Bool} {m n : Nat} (hm : m < b.months.length) (h : ahF b p m n = true) : ∃ k, k ∈ lvL b m n ∧ ahB b p (b.months.length - (m + 1)) k = true := by
  unfold ahF at h
  rw [Bool.and_eq_true, show b.months.length - m = (b.months.length - (m + 1)) + 1 by omega, ahB, Bool.and_eq_true, List.any_eq_true] at h
  obtain ⟨_, ⟨k, h1, h2⟩, _⟩ := h
  rw [show b.months.length - (b.months.length - (m + 1) + 1) = m by omega] at h1
  exact ⟨k, h1, h2⟩
theorem cn_ah {b : Bd} {p : Nat → Bool} : ∀ {m n : Nat}, cnB b p m n = true → ahF b p m n = true
  | 0, n, h => by unfold cnB at h; rw [Bool.and_eq_true] at h; exact h.1
  | m + 1, n, h => by unfold cnB at h; rw [Bool.and_eq_true] at h; exact h.2
theorem cn_step {b : Bd} {p : Nat → Bool} {m n k : Nat} (h : cnB b p m n = true) (hr : b.room ≤ 120) (hk : k ∈ lvL b m n) (h2 : ahF b p (m + 1) k = true) : cnB b p (m + 1) k = true := by
  rw [cnB, Bool.and_eq_true, List.any_eq_true]
  have := cnB_room h
  exact ⟨⟨n, List.mem_range.2 (by omega), by rw [h, Bool.true_and]; exact List.contains_iff_mem.2 hk⟩, h2⟩
theorem cn_next {b : Bd} (ok : BedOk b) {p : Nat → Bool} {m n : Nat} (hm : m < b.months.length) (h : cnB b p m n = true) : ∃ k, k ∈ lvL b m n ∧ cnB b p (m + 1) k = true := by
  obtain ⟨k, h1, h2⟩ := ah_next hm (cn_ah h)
  have h3 := (mem_lvF.1 h1).2
  have h4 := hiR_b ok (n := n) hm
  refine ⟨k, h1, cn_step h ok.r2 h1 ?_⟩
  unfold ahF
  rw [h2, decide_eq_true (by omega)]; rfl
theorem cn_some {b : Bd} (ok : BedOk b) {p : Nat → Bool} (h : noneB b p = false) : ∀ m, m ≤ b.months.length → ∃ n, n < 121 ∧ cnB b p m n = true
  | 0, _ => by
    apply Classical.byContradiction
    intro hn
    have : noneB b p = true := noneB_iff.2 fun n hn1 => by
      cases hc : cnB b p 0 n
      · rfl
      · exact absurd ⟨n, hn1, hc⟩ hn
    rw [this] at h; cases h
  | m + 1, hm => by
    obtain ⟨n, _, hn⟩ := cn_some ok h m (by omega)
    obtain ⟨k, _, hk⟩ := cn_next ok (by omega) hn
    have := cnB_room hk; have := ok.r2
    exact ⟨k, by omega, hk⟩
def canL (b : Bd) (m : Nat) : List Int := lstF (cnB b alwP m) 121
theorem canL_ne {b : Bd} (h : possE b = 0) {m : Nat} (hm : m ≤ b.months.length) : 0 < (canL b m).length := by
  obtain ⟨ok, h2⟩ := possE_iff.1 h
  obtain ⟨n, h3, h4⟩ := cn_some ok.toBedOk h2 m hm
  exact List.length_pos_of_mem (lstF_mem.2 ⟨n, h3, h4, rfl⟩)
def bndP (b : Bd) (m : Nat) : Int × Int := ((canL b m).getD 0 default, (canL b m).getD ((canL b m).length - 1) default)
def bndL (b : Bd) : List (Int × Int) := (List.range (b.months.length + 1)).map (bndP b)
def boundsA (b : Bd) : AV := if possE b ≠ 0 then .tup [.sl true [], .int .i64 (possE b)] else .tup [.sl false (chsA (bndL b)), .int .i64 0]
theorem xspl_am {k : List AV → Prop} {F : Nat → Bool} (h : k ((vecF 121 F).map .bool)) : xspl (List.replicate 121 (.bool false)) 0 ((vecF 121 F).map .bool) k := by
  have e : List.replicate 121 (AV.bool false) = (vecF 121 fun _ => false).map .bool := by rw [vecF_replicate, List.map_replicate]
  rw [e]; exact xspl_vecA h
theorem bounds_c (b : Bd) (hm : b.months.length ≤ 100000) (hs : b.surveys.length ≤ 100000) : Comp Try.prog 65 [bedA b] (boundsA b) := by
  have hp := possible_c b hm hs
  unfold possA at hp
  unfold boundsA
  by_cases hE : possE b = 0
  · obtain ⟨ok, _⟩ := possE_iff.1 hE
    have m2 := ok.m2
    rw [if_neg (fun h => h hE)] at hp ⊢
    have e2 : (((matF (b.months.length + 1) 121 (cnB b alwP)).map (arrF AV.bool)).length : Int) = b.months.length + 1 := by rw [List.length_map, matF, vecF_len]; omega
    refine Comp.body (T := tab) (res := [.tmp 2, .tmp 3]) tab_ok [] Try.func65 rfl (by kernel_rfl) Try.ntmps65 rfl (by simp only [List.length_cons, List.length_nil]; decide) (by simp only [lowL, bedL]; rfl) ?_; conv => whnf
    repeat' first | ((refine XCall.ret hp ?_); conv => whnf) | fail
    refine Walk.nilgr 7 58 rfl ?_
    refine Walk.loopGK tab_ok [] [(2, _), (3, _), (6, _), (17, _), (18, _)] ⟨rfl, rfl, rfl, rfl, rfl, trivial⟩ (fun i : Nat => i ≤ b.months.length + 1) (fun i => [(7, .gr 0 ((bndL b).take i).length), (19, natA i)]) (fun i => [.grow 58 ((bndL b).take i).isEmpty (chsA ((bndL b).take i))]) (fun i => b.months.length + 1 - i) 0 (Nat.zero_le _) rfl ⟨rfl, rfl, trivial⟩ ?_ (fun _ _ => (show (1 : Nat) ≤ 1 from Nat.le_refl 1)) ?_
    · intro i _
      refine ⟨fun z hz => ?_, fun z hz => ?_⟩
      · rw [List.mem_singleton] at hz; subst hz; exact chs_low _
      · simp only [List.cons_append, List.nil_append, List.mem_cons, List.not_mem_nil, or_false] at hz
        rcases hz with rfl | rfl | rfl | rfl | rfl | rfl | rfl <;> first | rfl | exact canA_low b
    intro i hi
    have hbl : (bndL b).length = b.months.length + 1 := by unfold bndL; simp
    have hnx : i < b.months.length + 1 → (bndL b).take (i + 1) = (bndL b).take i ++ [bndP b i] := fun h => by
      rw [take_next (by omega)]
      congr 2
      unfold bndL
      rw [List.getD_eq_getElem?_getD, List.getElem?_map, List.getElem?_range h]; rfl
    have hli : (chsA ((bndL b).take i)).length = ((bndL b).take i).length := List.length_map _
    have hl2 : ((bndL b).take i).length = i := by rw [List.length_take]; omega
    have hls := amList_c (cnB b alwP i)
    have hcl : i < b.months.length + 1 → 0 < (canL b i).length := fun h => canL_ne hE (by omega)
    have hcl2 : (canL b i).length ≤ 121 := lstF_len _ _
    have hcl3 : ((ints (canL b i)).length : Int) = (canL b i).length := by rw [ints_len]
    change Comp Try.prog _ _ (slA (canL b i)) at hls
    conv => whnf
    by_cases hlt : i < b.months.length + 1
    · have hcl := hcl hlt
      repeat' first | ((with_reducible apply XBr.dec) <;> (intro h; first | (exfalso; omega) | ((try simp only [List.length_map] at h); first | (exfalso; omega) | (conv => whnf)))) | ((with_reducible refine XInt.i64 (by omega) (by omega) ?_); conv => whnf) | ((with_reducible refine XHold.mk ?_ ?_); (first | omega | rfl | decide | exact ⟨rfl, by decide, rfl⟩ | exact wideI _ | exact widePr _ | exact wideSk _ | (unfold Room; constructor <;> ((try simp) <;> omega)) | exact ⟨rfl, by simp only [List.length_map], by unfold Room; constructor <;> ((try simp) <;> omega)⟩ | exact ⟨by omega, by omega, by unfold Room; constructor <;> ((try simp) <;> omega)⟩); conv => whnf) | (((with_reducible refine XIx.map ?_ ?_ ?_ ?_); omega; omega; (intro _; rfl)); conv => whnf) | (with_reducible apply XAnd.mk) | ((first | (with_reducible apply Chk.go) | (with_reducible apply ChkA.go) | (with_reducible apply ChkF.go) | (with_reducible apply ChkB.go)); conv => whnf) | (exact XSame.mk rfl rfl) | (with_reducible exact trivial) | (apply Walk.drawN (id := 7) tab_ok mixed_ok [] [12] (hsC [_, _]) [_, _, _, _, _, _, _, _, _, _, _, _, _, _] (by kernel_rfl) rfl) | ((first | (with_reducible apply XNext.mk) | (refine XIx.mat i rfl (by omega) rfl ?_) | (refine xtk_vec rfl ?_) | (refine xn_vec rfl ?_) | (refine xspl_am ?_) | (refine XCall.ret hls ?_)); conv => whnf) | fail
      have e : bndP b i = ((canL b i).getD (Int.toNat 0) default, (canL b i).getD (((ints (canL b i)).length : Int) - 1).toNat default) := by
        unfold bndP
        rw [show (((ints (canL b i)).length : Int) - 1).toNat = (canL b i).length - 1 by omega]; rfl
      refine XAgainG.go (i + 1) [.cells ((vecF 121 (cnB b alwP i)).map .bool)] (by omega) (by omega) ?_ ⟨rfl, rfl, rfl, rfl, rfl, ?_, rfl, trivial⟩
      · rw [hnx hlt]
        show [Blk.grow _ ((bndL b).take i ++ [bndP b i]).isEmpty (((bndL b).take i ++ [bndP b i]).map prA)] ++ _ = _
        rw [isEmpty_app, List.map_append, e]; rfl
      · show some (AV.gr 0 (((bndL b).take i).length + 1)) = _
        rw [hnx hlt, List.length_append]; rfl
    · obtain rfl : i = b.months.length + 1 := by omega
      have e : (bndL b).take (b.months.length + 1) = bndL b := List.take_of_length_le (by omega)
      rw [e] at hli ⊢
      repeat' first | ((with_reducible apply XBr.dec) <;> (intro h; first | (exfalso; omega) | ((try simp only [List.length_map] at h); first | (exfalso; omega) | (conv => whnf)))) | fail
      have e3 : (bndL b).isEmpty = false := by unfold bndL; rw [List.range_succ]; simp
      rw [e3]
      exact ⟨Froz.tup (.cons (Froz.grow rfl hli (chs_low _)) (.cons (.low rfl) .nil))⟩
  · rw [if_pos hE] at hp ⊢
    generalize possE b = e at hp hE
    refine Comp.body (T := tab) (res := [.tmp 2, .tmp 3]) tab_ok [] Try.func65 rfl (by kernel_rfl) Try.ntmps65 rfl (by simp only [List.length_cons, List.length_nil]; decide) (by simp only [lowL, bedL]; rfl) ?_; conv => whnf
    repeat' first | ((refine XCall.ret hp ?_); conv => whnf) | fail
    refine Walk.loopK tab_ok [] [(2, _), (3, _), (6, _), (17, _), (18, _)] ⟨rfl, rfl, rfl, rfl, rfl, trivial⟩ (fun _ : Unit => True) (fun _ => [(7, .sl true []), (19, .int .i64 0)]) (fun _ => []) (fun _ => 0) () trivial rfl ⟨rfl, rfl, trivial⟩ ?_
    intro _ _
    conv => whnf
    repeat' first | ((with_reducible apply XBr.dec) <;> (intro h; first | (exfalso; omega) | ((try simp only [List.length_map] at h); first | (exfalso; omega) | (conv => whnf)))) | fail
    · rename_i h; simp at h
    · exact ⟨.low rfl⟩
end GA
end

section
namespace GA
open Go Go.RowKit Go.Proofs
set_option pp.deepTerms true
set_option maxRecDepth 8000
set_option linter.unusedVariables false
set_option linter.unusedSimpArgs false

def endP (b : Bd) (plan : List Int) : Nat → Nat → Int
  | 0, n => n
  | k + 1, n => if lieR b (b.months.length - (k + 1)) n - plan.getD (b.months.length - (k + 1)) 0 < 0 then lieR b (b.months.length - (k + 1)) n - plan.getD (b.months.length - (k + 1)) 0 else endP b plan k (lieR b (b.months.length - (k + 1)) n - plan.getD (b.months.length - (k + 1)) 0).toNat
theorem lieR_plan {b : Bd} {plan : List Int} {m n : Nat} (h : m < b.months.length) : lieR (withPlan b plan) m n = lieR b m n := by
  show grossR b.room (moB (withPlan b plan) m).g n (moB (withPlan b plan) m).pl (moB (withPlan b plan) m).th = _
  rw [withPlan_mo h]; rfl
theorem endW_plan {b : Bd} {plan : List Int} : ∀ (k n : Nat), k ≤ b.months.length → endW (withPlan b plan) k n = endP b plan k n
  | 0, n, _ => rfl
  | k + 1, n, hk => by
    by_cases h0 : 0 < b.months.length
    · have hm : b.months.length - (k + 1) < b.months.length := by omega
      rw [endW, endP, withPlan_len, lieR_plan hm, withPlan_mo hm]
      dsimp only
      rw [endW_plan k _ (by omega)]
    · omega
theorem endR_plan (b : Bd) (plan : List Int) : endR (withPlan b plan) = endP b plan b.months.length (leastR b).toNat := by
  unfold endR
  rw [withPlan_len, endW_plan _ _ (Nat.le_refl _)]; rfl
theorem keepB_eq (b : Bd) (plan : List Int) (share : Int) : keepB b plan share = decide (share ≤ endP b plan b.months.length (leastR b).toNat) := by
  unfold keepB; rw [endR_plan]
theorem equal_span (n1 n2 : Bool) (xs ys : List (Int × Int)) (hx : xs.length ≤ 100000) : Comp Try.prog 170 [.sl n1 (chsA xs), .sl n2 (chsA ys)] (.bool (xs == ys)) := by
  refine Comp.body (T := tab) (res := [.tmp 4]) tab_ok [] Try.func170 rfl (by kernel_rfl) Try.ntmps170 rfl (by simp only [List.length_cons, List.length_nil]; decide) (by simp only [lowL, AV.low, chs_low]; rfl) ?_; conv => whnf
  have hx2 : (chsA xs).length = xs.length := List.length_map _
  have hy2 : (chsA ys).length = ys.length := List.length_map _
  repeat' first | ((with_reducible apply XBr.bne) <;> (intro h; first | (exfalso; omega) | (conv => whnf))) | fail
  · refine XOut.bool ?_
    rw [Bool.eq_iff_iff]; simp; intro e; subst e; exact h rfl
  have hl : (xs.length : Int) = ys.length := by omega
  refine Walk.loop tab_ok [] (fun i : Nat => i ≤ xs.length ∧ ∀ j, j < i → xs.getD j default = ys.getD j default) (fun i => [(0, .sl n1 (chsA xs)), (1, .sl n2 (chsA ys)), (12, .int .i64 xs.length), (13, .int .i64 i)]) (fun _ => []) (fun i => xs.length - i) 0 ⟨by omega, by omega⟩ rfl ⟨rfl, rfl, by rw [← hx2]; rfl, rfl, trivial⟩ ?_
  rintro i ⟨h2, h3⟩
  conv => whnf
  repeat' first | (with_reducible apply XBr.not) | ((with_reducible apply XBr.dec) <;> (intro h; first | (exfalso; omega) | ((try simp only [List.length_map] at h); first | (exfalso; omega) | (conv => whnf)))) | ((first | (with_reducible refine XInt.i64 (by omega) (by omega) ?_) | ((with_reducible refine XIx.nat ?_ ?_ ?_); omega; (intro _; rfl))); conv => whnf) | (with_reducible apply XAnd.mk) | ((first | (with_reducible apply Chk.go) | (with_reducible apply ChkA.go) | (with_reducible apply ChkF.go) | (with_reducible apply ChkB.go)); conv => whnf) | (exact XSame.mk rfl rfl) | (with_reducible exact trivial) | (apply Walk.drawN (id := 6) tab_ok mixed_ok [] [] (hsU _) [_, _, _, _, _, _, _, _, _] (by kernel_rfl) rfl) | ((first | (with_reducible apply XNext.mk) | (refine XEqA.mk ⟨[(xs.getD i default).1, (xs.getD i default).2], [(ys.getD i default).1, (ys.getD i default).2], rfl, rfl, rfl, rfl, ?_⟩)); conv => whnf) | ((with_reducible apply XBr.mk') <;> (intro h; conv => whnf)) | fail
  · rename_i h
    refine XAgain.go (i + 1) ⟨by omega, fun j hj => ?_⟩ (by omega) rfl ⟨rfl, rfl, rfl, rfl, trivial⟩
    by_cases hji : j = i
    · subst hji
      simp at h
      exact Prod.ext h.1 h.2
    · exact h3 j (by omega)
  · rename_i h
    refine XOut.bool ?_
    rw [Bool.eq_iff_iff]; simp
    intro e; subst e; simp at h
  · refine XOut.bool ?_
    have := eq_of_getD (by omega) fun j hj => h3 j (by omega)
    rw [this]; simp
def bTwo (nl : Bool) (sv : List Su) : Bd := ⟨50, 20, 2, false, [⟨10, 6, 0, 5, 0, 4⟩, ⟨10, 3, 0, 0, 0, 10⟩], nl, sv⟩
theorem two_c (nl : Bool) (sv : List Su) : Comp Try.prog 97 [.sl nl (sv.map suA)] (bedA (bTwo nl sv)) := by
  refine Comp.body (T := tab) (res := [.cell 2 26]) tab_ok [] Try.func97 rfl (by kernel_rfl) Try.ntmps97 rfl (by simp only [List.length_cons, List.length_nil]; decide) (by simp only [lowL, AV.low, lowSu]; rfl) ?_; conv => whnf
  repeat' first | ((with_reducible refine XHold.mk ?_ ?_); (first | omega | rfl | decide | exact ⟨rfl, by decide, rfl⟩ | exact wideI _ | exact widePr _ | exact wideSk _ | (unfold Room; constructor <;> ((try simp) <;> omega)) | exact ⟨rfl, by simp only [List.length_map], by unfold Room; constructor <;> ((try simp) <;> omega)⟩ | exact ⟨by omega, by omega, by unfold Room; constructor <;> ((try simp) <;> omega)⟩); conv => whnf) | fail
  show XOut _ _ (bedA (bTwo nl sv)) (bedA (bTwo nl sv))
  exact ⟨.low (bedL _)⟩
theorem found_c (m lo hi : Int) : Comp Try.prog 76 [.int .i64 m, .int .i64 lo, .int .i64 hi] (suA ⟨m, lo, hi⟩) := by
  refine Comp.body (T := tab) (res := [.cell 6 122]) tab_ok [] Try.func76 rfl (by kernel_rfl) Try.ntmps76 rfl (by simp only [List.length_cons, List.length_nil]; decide) (by rfl) ?_; conv => whnf
  skip
  exact ⟨.low rfl⟩
theorem aw1 : boundsA (bTwo false [⟨1, 21, 30⟩]) = .tup [.sl false (chsA [(20, 22), (21, 23), (10, 22)]), .int .i64 0] := by
  have h1 : bedE (bTwo false [⟨1, 21, 30⟩]) = 0 := by decide +kernel
  have h2 : noneB (bTwo false [⟨1, 21, 30⟩]) alwP = false := by rw [noneB_dec]; decide +kernel
  have h3 : bndL (bTwo false [⟨1, 21, 30⟩]) = [(20, 22), (21, 23), (10, 22)] := by decide +kernel
  unfold boundsA
  rw [possE_iff.2 ⟨(bedE_iff _).1 h1, h2⟩, if_neg (fun h => h rfl), h3]
theorem aw2 : leaveA (bTwo true []) 0 20 5 1 = .tup [.int .i64 20, .int .i64 0] := rfl
theorem aw3 : floorA (bTwo true []) 5 = .tup [.sl false (ints [17, 14, 5]), .int .i64 0] := by
  have h1 : bShareE (bTwo true []) 5 = 0 := by decide +kernel
  have h2 : flrL (bTwo true []) 5 (bTwo true []).months.length = some [17, 14, 5] := by decide +kernel
  unfold floorA
  rw [h1, if_neg (fun h => h rfl), h2]
def evenG (b : Bd) (share : Int) : Nat → Int
  | 0 => -1
  | n + 1 => if decide (share ≤ endP b (List.replicate b.months.length (n : Int)) b.months.length (leastR b).toNat) = true then n else evenG b share n
theorem evenF_eq (b : Bd) (share : Int) : ∀ n, evenF b share n = evenG b share n
  | 0 => rfl
  | n + 1 => by rw [evenF, evenG, keepB_eq, evenF_eq b share n]
theorem aw4 : evenA (bTwo true []) 0 = .tup [.int .i64 3, .int .i64 0] := by
  have h1 : bShareE (bTwo true []) 0 = 0 := by decide +kernel
  have h2 : evenF (bTwo true []) 0 ((bTwo true []).room.toNat + 1) = 3 := by rw [evenF_eq]; decide +kernel
  unfold evenA
  rw [h1, if_neg (fun h => h rfl), h2, if_neg (by decide)]
theorem aw5 : keepsA (bTwo true []) [6, 3] 0 = .tup [.bool false, .int .i64 0] := by
  have h1 : planE (bTwo true []) [6, 3] = 0 := by decide +kernel
  have h2 : keepB (bTwo true []) [6, 3] 0 = false := by rw [keepB_eq]; decide +kernel
  have h3 : inZ 0 0 (bTwo true []).room = true := by decide +kernel
  unfold keepsA
  rw [h1, if_neg (fun h => h rfl), h3, if_neg (by simp), h2]
theorem eq_span (n1 n2 : Bool) (xs ys : List (Int × Int)) (hx : xs.length ≤ 100000) : Comp Try.prog 98 [.sl n1 (chsA xs), .sl n2 (chsA ys)] (.bool (xs == ys)) := by
  refine Comp.body (T := tab) (res := [.tmp 4]) tab_ok [] Try.func98 rfl (by kernel_rfl) Try.ntmps98 rfl (by simp only [List.length_cons, List.length_nil]; decide) (by simp only [lowL, AV.low, chs_low]; rfl) ?_; conv => whnf
  refine XCall.ret (equal_span n1 n2 xs ys hx) ?_
  conv => whnf
  exact XOut.bool rfl
theorem awake04_c : Comp Try.prog 24 [] (.bool true) := by
  have c1 := bounds_c (bTwo false [⟨1, 21, 30⟩]) (by decide) (by decide)
  rw [aw1] at c1
  have c2 := leaves_all_c (bTwo true []) 0 20 5 1 (by decide) (by decide)
  rw [aw2] at c2
  have c3 := floor_all_c (bTwo true []) 5 (by decide) (by decide)
  rw [aw3] at c3
  have c4 := even_c (bTwo true []) 0 (by decide) (by decide)
  rw [aw4] at c4
  have c5 := keeps_c (bTwo true []) false [6, 3] 0 (by decide) (by decide) (by decide)
  rw [aw5] at c5
  have e1 : Comp Try.prog 98 [.sl false (chsA [(20, 22), (21, 23), (10, 22)]), .sl false (chsA [(20, 22), (21, 23), (10, 22)])] (.bool true) := eq_span false false _ _ (by decide)
  have e2 : Comp Try.prog 33 [.sl false (ints [17, 14, 5]), .sl false (ints [17, 14, 5])] (.bool true) := eq_int false false _ _ (by decide)
  have t1 := two_c false [⟨1, 21, 30⟩]
  have t2 := two_c true []
  generalize bTwo false [⟨1, 21, 30⟩] = b1 at *
  generalize bTwo true [] = b2 at *
  refine Comp.body (T := tab) (res := [.tmp 0]) tab_ok [] Try.func24 rfl (by kernel_rfl) Try.ntmps24 rfl (by simp only [List.length_cons, List.length_nil]; decide) (by rfl) ?_; conv => whnf
  repeat' first | ((with_reducible refine XHold.mk ?_ ?_); (first | omega | rfl | decide | exact ⟨rfl, by decide, rfl⟩ | exact wideI _ | exact widePr _ | exact wideSk _ | (unfold Room; constructor <;> ((try simp) <;> omega)) | exact ⟨rfl, by simp only [List.length_map], by unfold Room; constructor <;> ((try simp) <;> omega)⟩ | exact ⟨by omega, by omega, by unfold Room; constructor <;> ((try simp) <;> omega)⟩); conv => whnf) | ((first | (refine XCall.ret (found_c 1 21 30) ?_) | (refine XCall.ret t1 ?_) | (refine XCall.ret t2 ?_) | (refine XCall.ret c1 ?_) | (refine XCall.ret c2 ?_) | (refine XCall.ret c3 ?_) | (refine XCall.ret c4 ?_) | (refine XCall.ret c5 ?_)); conv => whnf) | fail
  refine Walk.norm tab_ok [] [(1, _), (2, _), (3, _), (4, _), (5, _), (6, _), (7, _), (8, _), (9, _), (10, _)] ⟨rfl, rfl, rfl, rfl, rfl, rfl, rfl, rfl, rfl, rfl, trivial⟩ ?_
  conv => whnf
  repeat' first | ((with_reducible apply XBr.tt); conv => whnf) | ((with_reducible apply XBr.beq) <;> (intro h; first | (exfalso; omega) | (conv => whnf))) | ((with_reducible refine XHold.mk ?_ ?_); (first | omega | rfl | decide | exact ⟨rfl, by decide, rfl⟩ | exact wideI _ | exact widePr _ | exact wideSk _ | (unfold Room; constructor <;> ((try simp) <;> omega)) | exact ⟨rfl, by simp only [List.length_map], by unfold Room; constructor <;> ((try simp) <;> omega)⟩ | exact ⟨by omega, by omega, by unfold Room; constructor <;> ((try simp) <;> omega)⟩); conv => whnf) | ((first | (refine XCall.ret e1 ?_) | (refine XCall.ret e2 ?_)); conv => whnf) | fail
  exact ⟨.low rfl⟩
end GA
end

section
namespace GA
open Go Go.RowKit Go.Proofs
set_option pp.deepTerms true
set_option maxRecDepth 8000
set_option linter.unusedVariables false
set_option linter.unusedSimpArgs false

structure MadeB (room months : Int) (b : Bd) (re : List Int) (ch : List (Int × Int)) : Prop where
  ok : BdOk b
  sv : b.surveys = []
  nls : b.nls = true
  ro : b.room ≤ room
  mo : (b.months.length : Int) ≤ months
  rl : re.length = b.months.length + 1
  cl : ch.length = b.months.length
end GA
end

section
namespace GA
open Go Go.RowKit Go.Proofs
set_option pp.deepTerms true
set_option maxRecDepth 8000
set_option linter.unusedVariables false
set_option linter.unusedSimpArgs false

def KeptP (b : Bd) (l : List Int) (share : Int) : Prop := (∀ m, m < b.months.length → l.getD (m + 1) default ≤ lieR b m (l.getD m default).toNat) ∧ share ≤ l.getD b.months.length default
instance (b : Bd) (l : List Int) (share : Int) : Decidable (KeptP b l share) := by unfold KeptP; infer_instance
end GA
end

section
namespace GA
open Go Go.RowKit Go.Proofs
set_option maxRecDepth 8000
set_option linter.unusedVariables false
set_option linter.unusedSimpArgs false

theorem grossR_mono {room g a a' sp sp' st st' : Int} (hg : 0 ≤ g) (h1 : a ≤ a') (h2 : sp ≤ sp') (h3 : st' ≤ st) : grossR room g a sp st ≤ grossR room g a' sp' st' := by
  unfold grossR
  have h4 : a * g ≤ a' * g := Int.mul_le_mul_of_nonneg_right h1 hg
  have h5 : a * g / 100 ≤ a' * g / 100 := Int.ediv_le_ediv (by omega) h4
  omega
end GA
end

section
namespace GA
open Go Go.RowKit
set_option linter.unusedVariables false
section
variable {P : Program} {N : Nat} {ρ : Option Nat} {H : List Blk} {σ : St} {D : List Nat}

theorem flat_one : ∀ {els : List AV}, (∀ x ∈ els, x.one = true) → flat els = els
  | [], _ => rfl
  | x :: l, h => by
    have h1 := h x List.mem_cons_self
    have h2 := flat_one (els := l) fun y hy => h y (List.mem_cons_of_mem _ hy)
    have h3 : x.cells = [x] := by cases x <;> first | rfl | cases h1
    show x.cells ++ flat l = _
    rw [h3, h2]; rfl
theorem cells_one {x : AV} (h : x.one = true) : x.cells = [x] := by cases x <;> first | rfl | cases h

theorem Walk.run {T : Tab} {c : Code} {Q : Post} (ok : TabOk P T) (own : List Nat) (x : XRun P T N ρ own c Q D σ H) : Walk P N ρ c Q D σ H := ⟨XRun.sound ok x⟩
theorem XGet.set {els : List AV} {n e m : Nat} {x : AV} {k : List AV → Prop} (he : e = m) (hm : m < els.length) (hn : n = els.length) (h : k x.cells) : XGet (els.set m x) n e k := by
  subst he
  refine ⟨by rw [List.length_set]; exact hn, by omega, ?_⟩
  have : (els.set e x).getD e default = x := by rw [List.getD_eq_getElem?_getD, List.getElem?_set_self hm]; rfl
  rw [this]; exact h
theorem XPut.set {els : List AV} {n e m : Nat} {x v : AV} {k : List AV → Prop} (he : e = m) (hm : m < els.length) (hn : n = els.length) (h : k (els.set m v)) : XPut (els.set m x) n e v k := by
  subst he
  exact ⟨by rw [List.length_set]; exact hn, by omega, by rw [List.set_set]; exact h⟩
theorem FrozN.sl {n : Nat} {nl : Bool} {els els' : List AV} (hone : ∀ x ∈ els, x.one = true) (hone' : ∀ x ∈ els', x.one = true) (hs : FrozNL P n H els els') : FrozN P n H (.sl nl els) (.sl nl els') := by
  intro E h β w s v hr H1
  cases hr with
  | slnil =>
    have : els' = [] := List.eq_nil_of_length_eq_zero hs.1
    subst this; exact .slnil
  | slemp =>
    have : els' = [] := List.eq_nil_of_length_eq_zero hs.1
    subst this; exact .slemp
  | sl us hn hne hb hw hw0 ho hcap hc h3 =>
    rw [flat_one hone] at hc h3
    obtain ⟨e0, he0⟩ := List.exists_mem_of_ne_nil _ hne
    have hw1 := hw e0 he0
    rw [cells_one (hone e0 he0)] at hw1
    refine .sl us (by rw [hn, hs.1]) (fun e => hne (List.eq_nil_of_length_eq_zero (by rw [← hs.1, e]; rfl))) (hallN_imm s hb) (fun e he => by rw [cells_one (hone' e he)]; exact hw1) hw0 (fun x hx => ?_) (by rw [hs.1]; exact hcap) (fun j x e => ?_) (fun j x e => ?_)
    · rw [flat_one hone'] at hx; exact hone' x hx
    · rw [flat_one hone'] at e
      obtain ⟨y, e1, _⟩ := hs.2 j x e; exact hc j y e1
    · rw [flat_one hone'] at e
      obtain ⟨y, e1, e2⟩ := hs.2 j x e; exact e2 E h β w s _ (h3 j y e1) H1
end
end GA
end

section
namespace GA
open Go Go.RowKit Go.Proofs
set_option pp.deepTerms true
set_option maxRecDepth 8000
set_option linter.unusedVariables false
set_option linter.unusedSimpArgs false

def rkR (b : Bd) (l : List Int) (m n : Nat) : Int := max 0 (lieR b m n - l.getD (m + 1) default)
def gbR (b : Bd) (m n : Nat) : Int := grossR b.room (moB b m).g n (moB b m).ph (moB b m).tl
def mnS (F : Nat → Int) (s : Int) (c : Nat) : Int := if s < 0 ∨ F c < s then F c else s
def mnP (F : Nat → Int) (lo c : Nat) : Int := (List.range' lo (c - lo)).foldl (mnS F) (-1)
theorem mnP_succ {F : Nat → Int} {lo c : Nat} (h : lo ≤ c) : mnP F lo (c + 1) = mnS F (mnP F lo c) c := by
  unfold mnP
  rw [show c + 1 - lo = (c - lo) + 1 by omega, List.range'_1_concat, List.foldl_append, show lo + (c - lo) = c by omega]; rfl
theorem mnP_nil (F : Nat → Int) (lo : Nat) : mnP F lo lo = -1 := by unfold mnP; rw [Nat.sub_self]; rfl
theorem mnP_b {F : Nat → Int} {B : Int} (hB : 0 ≤ B) {lo : Nat} : ∀ c, lo ≤ c → (∀ q, lo ≤ q → q < c → 0 ≤ F q ∧ F q ≤ B) → -1 ≤ mnP F lo c ∧ mnP F lo c ≤ B ∧ (lo < c → 0 ≤ mnP F lo c) ∧ ∀ q, lo ≤ q → q < c → mnP F lo c ≤ F q
  | 0, h, hF => by
    obtain rfl : lo = 0 := by omega
    rw [mnP_nil]; exact ⟨by omega, by omega, by omega, by omega⟩
  | c + 1, h, hF => by
    by_cases hl : lo = c + 1
    · subst hl; rw [mnP_nil]; exact ⟨by omega, by omega, by omega, by omega⟩
    · obtain ⟨h1, h2, h3, h4⟩ := mnP_b hB c (by omega) fun q a b => hF q a (by omega)
      have h5 := hF c (by omega) (by omega)
      rw [mnP_succ (by omega)]
      unfold mnS
      split
      · rename_i h6
        refine ⟨by omega, by omega, by omega, fun q a b => ?_⟩
        by_cases hq : q = c
        · rw [hq]; exact Int.le_refl _
        · have := h4 q a (by omega)
          have := h3 (by omega)
          omega
      · rename_i h6
        refine ⟨by omega, by omega, by omega, fun q a b => ?_⟩
        by_cases hq : q = c
        · rw [hq]; omega
        · exact h4 q a (by omega)
def smF (b : Bd) (l : List Int) : Nat → Nat → Int
  | 0, _ => 0
  | k + 1, n => if l.getD (b.months.length - (k + 1)) default ≤ n ∧ (n : Int) ≤ b.room then
      rkR b l (b.months.length - (k + 1)) n + mnP (smF b l k) (lieR b (b.months.length - (k + 1)) n - rkR b l (b.months.length - (k + 1)) n).toNat (gbR b (b.months.length - (k + 1)) n - rkR b l (b.months.length - (k + 1)) n + 1).toNat else 0
theorem gbR_b {b : Bd} (ok : BedOk b) {m n : Nat} (hm : m < b.months.length) : lieR b m n ≤ gbR b m n ∧ gbR b m n ≤ b.room := by
  have hmo := ok.mo' hm
  have r1 := ok.r1
  exact ⟨grossR_mono hmo.1 (Int.le_refl _) (by show (moB b m).pl ≤ _; omega) (by show _ ≤ (moB b m).th; omega), (grossR_le (by omega) (by omega)).2⟩
theorem rkR_b {b : Bd} (ok : BedOk b) {l : List Int} (hl : ∀ j, j ≤ b.months.length → 0 ≤ l.getD j default ∧ l.getD j default ≤ b.room) {m n : Nat} (hm : m < b.months.length) : 0 ≤ rkR b l m n ∧ rkR b l m n ≤ lieR b m n ∧ (l.getD (m + 1) default ≤ lieR b m n → l.getD (m + 1) default ≤ lieR b m n - rkR b l m n) := by
  have := lieR_b ok (n := n) hm
  have := hl (m + 1) (by omega)
  unfold rkR; omega
theorem smF_b {b : Bd} (ok : BedOk b) {l : List Int} (hl : ∀ j, j ≤ b.months.length → 0 ≤ l.getD j default ∧ l.getD j default ≤ b.room) : ∀ k, k ≤ b.months.length → ∀ n, 0 ≤ smF b l k n ∧ smF b l k n ≤ 120 * k
  | 0, _, n => by unfold smF; omega
  | k + 1, hk, n => by
    have r2 := ok.r2
    by_cases h0 : 0 < b.months.length
    · have hm : b.months.length - (k + 1) < b.months.length := by omega
      have h1 := rkR_b ok hl (n := n) hm
      have h2 := gbR_b ok (n := n) hm
      have h3 := lieR_b ok (n := n) hm
      unfold smF
      split
      · have h4 := mnP_b (F := smF b l k) (B := 120 * (k : Int)) (by omega) (lo := (lieR b (b.months.length - (k + 1)) n - rkR b l (b.months.length - (k + 1)) n).toNat) (gbR b (b.months.length - (k + 1)) n - rkR b l (b.months.length - (k + 1)) n + 1).toNat (by omega) fun q _ _ => by have := smF_b ok hl k (by omega) q; omega
        have := h4.2.2.1 (by omega)
        omega
      · omega
    · omega
theorem XGet.vec {W n e : Nat} {F : Nat → AV} {k : List AV → Prop} (m : Nat) (h1 : n = W) (he : e = m) (h2 : m < W) (h : k (F m).cells) : XGet (vecF W F) n e k := by
  subst he
  refine ⟨by rw [vecF_len, h1], by omega, ?_⟩
  rw [vecF_get _ h2]; exact h
end GA
end

section
namespace GA
open Go Go.RowKit Go.Proofs
set_option pp.deepTerms true
set_option maxRecDepth 8000
set_option linter.unusedVariables false
set_option linter.unusedSimpArgs false

def befF (b : Bd) (m k n : Nat) : Bool := decide (k ∈ lvL b m n)
end GA
end

section
namespace GA
open Go Go.RowKit Go.Proofs
set_option maxRecDepth 8000
set_option linter.unusedVariables false
set_option linter.unusedSimpArgs false

theorem ivt {f : Int → Int} (hf : ∀ x, f (x + 1) ≤ f x + 1) : ∀ (d : Nat) (a v : Int), f a ≤ v → v ≤ f (a + d) → ∃ x, a ≤ x ∧ x ≤ a + d ∧ f x = v
  | 0, a, v, h1, h2 => ⟨a, Int.le_refl _, by omega, by simp at h2; omega⟩
  | d + 1, a, v, h1, h2 => by
    by_cases h : f a = v
    · exact ⟨a, Int.le_refl _, by omega, h⟩
    · have h3 := hf a
      obtain ⟨x, q1, q2, q3⟩ := ivt hf d (a + 1) v (by omega) (by rw [show a + 1 + (d : Int) = a + ((d + 1 : Nat) : Int) by omega]; exact h2)
      exact ⟨x, by omega, by omega, q3⟩
theorem boxR {room g a pl ph tl th v : Int} (h1 : pl ≤ ph) (h2 : tl ≤ th) (lo : grossR room g a pl th ≤ v) (hi : v ≤ grossR room g a ph tl) : ∃ sp st, pl ≤ sp ∧ sp ≤ ph ∧ tl ≤ st ∧ st ≤ th ∧ grossR room g a sp st = v := by
  by_cases h : v ≤ grossR room g a ph th
  · obtain ⟨x, q1, q2, q3⟩ := ivt (f := fun sp => grossR room g a sp th) (fun x => by unfold grossR; omega) (ph - pl).toNat pl v lo (by rw [show pl + ((ph - pl).toNat : Int) = ph by omega]; exact h)
    exact ⟨x, th, q1, by omega, h2, Int.le_refl _, q3⟩
  · obtain ⟨x, q1, q2, q3⟩ := ivt (f := fun x => grossR room g a ph (th - x)) (fun x => by unfold grossR; omega) (th - tl).toNat 0 v (by rw [Int.sub_zero]; omega) (by rw [show th - (0 + ((th - tl).toNat : Int)) = tl by omega]; exact hi)
    exact ⟨ph, th - x, h1, Int.le_refl _, by omega, by omega, q3⟩
def InC (b : Bd) (m : Nat) (sp st : Int) : Prop := (moB b m).pl ≤ sp ∧ sp ≤ (moB b m).ph ∧ (moB b m).tl ≤ st ∧ st ≤ (moB b m).th
def grC (b : Bd) (m : Nat) (n sp st : Int) : Int := grossR b.room (moB b m).g n sp st
theorem grC_b {b : Bd} (ok : BedOk b) {m : Nat} (hm : m < b.months.length) {n : Nat} {sp st : Int} (h : InC b m sp st) : lieR b m n ≤ grC b m n sp st ∧ grC b m n sp st ≤ hiR b m n + (moB b m).r ∧ 0 ≤ grC b m n sp st ∧ grC b m n sp st ≤ b.room := by
  have hmo := ok.mo' hm
  obtain ⟨h1, h2, h3, h4⟩ := h
  have := grossR_le (room := b.room) (g := (moB b m).g) (a := n) (sp := sp) (st := st) (by have := ok.r1; omega) (by omega)
  refine ⟨grossR_mono hmo.1 (Int.le_refl _) h1 h4, ?_, this.1, this.2⟩
  have : grC b m n sp st ≤ grossR b.room (moB b m).g n (moB b m).ph (moB b m).tl := grossR_mono hmo.1 (Int.le_refl _) h2 h3
  unfold hiR; omega
theorem mem_lv {b : Bd} (ok : BedOk b) {m : Nat} (hm : m < b.months.length) {n k : Nat} : k ∈ lvL b m n ↔ ∃ sp st, InC b m sp st ∧ grC b m n sp st - (moB b m).r = k := by
  have hmo := ok.mo' hm
  have hlo := lieR_b ok (j := m) (n := n) hm
  unfold lvL
  rw [mem_lvF]
  constructor
  · rintro ⟨h1, h2⟩
    unfold loR at h1
    unfold hiR at h2
    obtain ⟨sp, st, q1, q2, q3, q4, q5⟩ := boxR (room := b.room) (g := (moB b m).g) (a := n) (v := k + (moB b m).r) (show (moB b m).pl ≤ (moB b m).ph by omega) (show (moB b m).tl ≤ (moB b m).th by omega) (by show lieR b m n ≤ _; omega) (by omega)
    exact ⟨sp, st, ⟨q1, q2, q3, q4⟩, by unfold grC; omega⟩
  · rintro ⟨sp, st, h1, h2⟩
    have := grC_b ok hm (n := n) h1
    unfold loR
    constructor <;> omega
theorem inC_worst {b : Bd} (ok : BedOk b) {m : Nat} (hm : m < b.months.length) : InC b m (moB b m).pl (moB b m).th := by
  have hmo := ok.mo' hm
  exact ⟨Int.le_refl _, by omega, by omega, Int.le_refl _⟩
theorem agB_iff {b : Bd} {p : Nat → Bool} {m n : Nat} : agB b p m n = true ↔ ∀ i, i < b.surveys.length → (suB b i).m = m → p i = true → (suB b i).lo ≤ n ∧ (n : Int) ≤ (suB b i).hi := by
  unfold agB
  rw [List.all_eq_true]
  constructor
  · intro h i hi hm hp
    have := h i (rowT_mem.2 ⟨i, hi, hm, rfl⟩)
    rw [Int.toNat_natCast, hp] at this
    simpa [inZ_iff] using this
  · intro h x hx
    obtain ⟨i, hi, hm, rfl⟩ := rowT_mem.1 hx
    rw [Int.toNat_natCast]
    cases hp : p i with
    | false => rfl
    | true => have := h i hi hm hp; simp [inZ_iff]; exact this
end GA
end

section
namespace GA
open Go Go.RowKit Go.Proofs
set_option pp.deepTerms true
set_option maxRecDepth 8000
set_option linter.unusedVariables false
set_option linter.unusedSimpArgs false

def AlongC (b : Bd) (c : List Int) (ch : List (Int × Int)) (k : Nat) : Prop := ∀ m, m < k → (moB b m).pl ≤ (ch.getD m default).1 ∧ (ch.getD m default).1 ≤ (moB b m).ph ∧ (moB b m).tl ≤ (ch.getD m default).2 ∧ (ch.getD m default).2 ≤ (moB b m).th ∧ grossR b.room (moB b m).g (c.getD m default) (ch.getD m default).1 (ch.getD m default).2 - (moB b m).r = c.getD (m + 1) default
structure RealB (b : Bd) (re : List Int) (ch : List (Int × Int)) : Prop where
  b0 : ∀ x ∈ re, 0 ≤ x ∧ x ≤ b.room
  st : b.first - b.unsure ≤ re.getD 0 default ∧ re.getD 0 default ≤ b.first + b.unsure
  al : AlongC b re ch b.months.length
theorem getD_app {α : Type} {l : List α} {x d : α} {i k : Nat} (hk : l.length = k) : (l ++ [x]).getD i d = if i < k then l.getD i d else if i = k then x else d := by
  rw [List.getD_eq_getElem?_getD]
  by_cases h : i < k
  · rw [if_pos h, List.getElem?_append_left (by omega), ← List.getD_eq_getElem?_getD]
  · rw [if_neg h]
    by_cases h2 : i = k
    · subst h2; rw [if_pos rfl, List.getElem?_append_right (by omega), hk, Nat.sub_self]; rfl
    · rw [if_neg h2, List.getElem?_eq_none (by simp; omega)]; rfl
structure MdRe (R : Int) (s : MdB) (k : Nat) (n0 : Int) : Prop where
  now : s.re.getD k default = s.now
  fst : s.re.getD 0 default = n0
  b : ∀ x ∈ s.re, 0 ≤ x ∧ x ≤ R
  al : ∀ m, m < k → (s.ms.getD m default).pl ≤ (s.ch.getD m default).1 ∧ (s.ch.getD m default).1 ≤ (s.ms.getD m default).ph ∧ (s.ms.getD m default).tl ≤ (s.ch.getD m default).2 ∧ (s.ch.getD m default).2 ≤ (s.ms.getD m default).th ∧ grossR R (s.ms.getD m default).g (s.re.getD m default) (s.ch.getD m default).1 (s.ch.getD m default).2 - (s.ms.getD m default).r = s.re.getD (m + 1) default
theorem MdRe.step {R : Int} {s : MdB} {k : Nat} {n0 : Int} (o : MdOk R s k) (h : MdRe R s k n0) : MdRe R (mdBS R s) (k + 1) n0 := by
  have h1 := mdN_b o
  have h2 := mdR_b o
  have hc := mdC_b s.u
  have hml := o.ml
  have hrl := o.rl
  have hcl := o.cl
  unfold mdBS
  refine ⟨?_, ?_, ?_, ?_⟩
  · dsimp only; rw [getD_app hrl, if_neg (by omega), if_pos rfl]
  · dsimp only; rw [getD_app hrl, if_pos (by omega)]; exact h.fst
  · dsimp only
    intro x hx
    rw [List.mem_append, List.mem_singleton] at hx
    rcases hx with hx | rfl
    · exact h.b x hx
    · omega
  · dsimp only
    intro m hm
    rw [getD_app hml, getD_app hrl, getD_app hcl, getD_app hrl]
    by_cases hmk : m = k
    · subst hmk
      rw [if_neg (by omega), if_pos rfl, if_neg (by omega), if_pos rfl, if_pos (by omega), if_neg (by omega), if_pos rfl, h.now]
      exact ⟨hc.1, hc.2.1, hc.2.2.1, hc.2.2.2, rfl⟩
    · rw [if_pos (by omega), if_pos (by omega), if_pos (by omega), if_pos (by omega)]
      exact h.al m (by omega)
end GA
end

section
namespace GA
open Go Go.RowKit Go.Proofs
set_option maxRecDepth 8000
set_option linter.unusedVariables false
set_option linter.unusedSimpArgs false

structure Crs (b : Bd) (p : Nat → Bool) (c : Nat → Nat) : Prop where
  st : inZ (c 0 : Nat) (b.first - b.unsure) (b.first + b.unsure) = true
  rm : ∀ m, m ≤ b.months.length → (c m : Int) ≤ b.room
  ag : ∀ m, m ≤ b.months.length → agB b p m (c m) = true
  nx : ∀ m, m < b.months.length → c (m + 1) ∈ lvL b m (c m)
theorem Crs.ah {b : Bd} {p : Nat → Bool} {c : Nat → Nat} (h : Crs b p c) : ∀ k, k ≤ b.months.length → ahB b p k (c (b.months.length - k)) = true
  | 0, _ => h.ag _ (Nat.le_refl _)
  | k + 1, hk => by
    have ih := h.ah k (by omega)
    rw [ahB, Bool.and_eq_true, List.any_eq_true]
    refine ⟨⟨c (b.months.length - k), ?_, ih⟩, h.ag _ (by omega)⟩
    have := h.nx (b.months.length - (k + 1)) (by omega)
    rwa [show b.months.length - (k + 1) + 1 = b.months.length - k by omega] at this
theorem Crs.af {b : Bd} {p : Nat → Bool} {c : Nat → Nat} (h : Crs b p c) {m : Nat} (hm : m ≤ b.months.length) : ahF b p m (c m) = true := by
  unfold ahF
  have := h.ah (b.months.length - m) (by omega)
  rw [show b.months.length - (b.months.length - m) = m by omega] at this
  rw [this, decide_eq_true (h.rm m hm)]; rfl
theorem Crs.cn {b : Bd} {p : Nat → Bool} {c : Nat → Nat} (hr : b.room ≤ 120) (h : Crs b p c) : ∀ m, m ≤ b.months.length → cnB b p m (c m) = true
  | 0, _ => by rw [cnB, h.af (Nat.zero_le _), h.st]; rfl
  | m + 1, hm => by
    have ih := h.cn hr m (by omega)
    rw [cnB, h.af hm, Bool.and_true, List.any_eq_true]
    refine ⟨c m, List.mem_range.2 (by have := h.rm m (by omega); omega), ?_⟩
    rw [ih, Bool.true_and, List.contains_iff_mem]
    exact h.nx m (by omega)
theorem ah_room {b : Bd} (ok : BedOk b) {m n k : Nat} (hm : m < b.months.length) (hk : k ∈ lvL b m n) : (k : Int) ≤ b.room := by
  obtain ⟨sp, st, h1, h2⟩ := (mem_lv ok hm).1 hk
  have := grC_b ok hm (n := n) h1
  have := ok.mo' hm
  omega
theorem ah_course {b : Bd} (ok : BedOk b) {p : Nat → Bool} : ∀ (k n : Nat), k ≤ b.months.length → (n : Int) ≤ b.room → ahB b p k n = true →
    ∃ c : Nat → Nat, c (b.months.length - k) = n ∧ ∀ m, b.months.length - k ≤ m → m ≤ b.months.length → (c m : Int) ≤ b.room ∧ agB b p m (c m) = true ∧ (m < b.months.length → c (m + 1) ∈ lvL b m (c m))
  | 0, n, _, hn, h => ⟨fun _ => n, rfl, fun m h1 h2 => by
      obtain rfl : m = b.months.length := by omega
      exact ⟨hn, h, fun h => by omega⟩⟩
  | k + 1, n, hk, hn, h => by
    rw [ahB, Bool.and_eq_true, List.any_eq_true] at h
    obtain ⟨⟨j, h1, h2⟩, h3⟩ := h
    obtain ⟨c, e, hc⟩ := ah_course ok k j (by omega) (ah_room ok (by omega) h1) h2
    refine ⟨fun m => if m = b.months.length - (k + 1) then n else c m, if_pos rfl, fun m q1 q2 => ?_⟩
    dsimp only
    rw [if_neg (show ¬ m + 1 = b.months.length - (k + 1) by omega)]
    by_cases hm : m = b.months.length - (k + 1)
    · rw [if_pos hm]
      subst hm
      refine ⟨hn, h3, fun _ => ?_⟩
      rw [show b.months.length - (k + 1) + 1 = b.months.length - k by omega, e]; exact h1
    · rw [if_neg hm]; exact hc m (by omega) q2
theorem cn_begin {b : Bd} (ok : BedOk b) {p : Nat → Bool} : ∀ (m n : Nat), m ≤ b.months.length → cnB b p m n = true →
    ∃ c : Nat → Nat, c m = n ∧ inZ (c 0 : Nat) (b.first - b.unsure) (b.first + b.unsure) = true ∧ (∀ i, i ≤ m → (c i : Int) ≤ b.room ∧ agB b p i (c i) = true) ∧ ∀ i, i < m → c (i + 1) ∈ lvL b i (c i)
  | 0, n, _, h => by
    have hr := cnB_room h
    have hf := cn_ah h
    rw [cnB, Bool.and_eq_true] at h
    refine ⟨fun _ => n, rfl, h.2, fun i hi => ⟨hr, ?_⟩, fun i hi => by omega⟩
    obtain rfl : i = 0 := by omega
    unfold ahF at hf
    rw [Bool.and_eq_true] at hf
    have hf := hf.2
    cases hk : b.months.length - 0 with
    | zero => rw [hk] at hf; rw [ahB] at hf; rwa [show b.months.length = 0 by omega] at hf
    | succ k => rw [hk, ahB, Bool.and_eq_true] at hf; have := hf.2; rwa [show b.months.length - (k + 1) = 0 by omega] at this
  | m + 1, n, hm, h => by
    have hr := cnB_room h
    have hf := cn_ah h
    rw [cnB, Bool.and_eq_true, List.any_eq_true] at h
    obtain ⟨⟨j, -, h1⟩, -⟩ := h
    rw [Bool.and_eq_true, List.contains_iff_mem] at h1
    obtain ⟨c, e, q1, q2, q3⟩ := cn_begin ok m j (by omega) h1.1
    refine ⟨fun i => if i = m + 1 then n else c i, if_pos rfl, ?_, fun i hi => ?_, fun i hi => ?_⟩
    · dsimp only; rw [if_neg (by omega)]; exact q1
    · dsimp only
      by_cases hi2 : i = m + 1
      · rw [if_pos hi2]; subst hi2
        refine ⟨hr, ?_⟩
        unfold ahF at hf
        rw [Bool.and_eq_true] at hf
        have hf := hf.2
        cases hk : b.months.length - (m + 1) with
        | zero => rw [hk, ahB] at hf; rwa [show b.months.length = m + 1 by omega] at hf
        | succ k => rw [hk, ahB, Bool.and_eq_true] at hf; have := hf.2; rwa [show b.months.length - (k + 1) = m + 1 by omega] at this
      · rw [if_neg hi2]; exact q2 i (by omega)
    · dsimp only
      rw [if_neg (show ¬ i = m + 1 by omega)]
      by_cases hi2 : i = m
      · rw [if_pos (by omega)]; subst hi2; rw [e]; exact h1.2
      · rw [if_neg (by omega)]; exact q3 i (by omega)
theorem cn_course {b : Bd} (ok : BedOk b) {p : Nat → Bool} {m n : Nat} (hm : m ≤ b.months.length) (h : cnB b p m n = true) : ∃ c, Crs b p c ∧ c m = n := by
  have hf := cn_ah h
  have hr := cnB_room h
  unfold ahF at hf
  rw [Bool.and_eq_true] at hf
  obtain ⟨c, e, q1, q2, q3⟩ := cn_begin ok m n hm h
  obtain ⟨d, e2, q4⟩ := ah_course ok (b.months.length - m) n (by omega) hr hf.2
  rw [show b.months.length - (b.months.length - m) = m by omega] at e2 q4
  refine ⟨fun i => if i ≤ m then c i else d i, ⟨?_, fun i hi => ?_, fun i hi => ?_, fun i hi => ?_⟩, by dsimp only; rw [if_pos (Nat.le_refl _), e]⟩
  · rw [if_pos (Nat.zero_le _)]; exact q1
  · split
    · exact (q2 i (by omega)).1
    · exact (q4 i (by omega) hi).1
  · split
    · exact (q2 i (by omega)).2
    · exact (q4 i (by omega) hi).2.1
  · skip
    by_cases h1 : i + 1 ≤ m
    · rw [if_pos h1, if_pos (by omega)]; exact q3 i (by omega)
    · rw [if_neg h1]
      by_cases h2 : i ≤ m
      · obtain rfl : i = m := by omega
        rw [if_pos h2, e, ← e2]
        exact (q4 i (by omega) (by omega)).2.2 hi
      · rw [if_neg h2]; exact (q4 i (by omega) (by omega)).2.2 hi
theorem cn_iff {b : Bd} (ok : BedOk b) {p : Nat → Bool} {m n : Nat} (hm : m ≤ b.months.length) : cnB b p m n = true ↔ ∃ c, Crs b p c ∧ c m = n :=
  ⟨cn_course ok hm, fun ⟨c, h, e⟩ => by rw [← e]; exact h.cn ok.r2 m hm⟩
theorem none_iff {b : Bd} (ok : BedOk b) {p : Nat → Bool} : noneB b p = false ↔ ∃ c, Crs b p c := by
  rw [← Bool.not_eq_true, noneB_iff]
  constructor
  · intro h
    cases hx : (List.range 121).all fun n => !cnB b p 0 n with
    | true => exact absurd (fun n hn => by have := List.all_eq_true.1 hx n (List.mem_range.2 hn); simpa using this) h
    | false =>
      rw [List.all_eq_false] at hx
      obtain ⟨n, hn, hc⟩ := hx
      obtain ⟨c, hc2, -⟩ := cn_course (p := p) ok (m := 0) (n := n) (Nat.zero_le _) (by simpa using hc)
      exact ⟨c, hc2⟩
  · rintro ⟨c, hc⟩ h
    have h1 := hc.cn ok.r2 0 (Nat.zero_le _)
    have h2 := h (c 0) (by have := hc.rm 0 (Nat.zero_le _); have := ok.r2; omega)
    rw [h1] at h2; cases h2
structure SameB (b c : Bd) : Prop where
  r : b.room = c.room
  f : b.first = c.first
  u : b.unsure = c.unsure
  m : b.months = c.months
theorem SameB.lv {b c : Bd} (h : SameB b c) (m n : Nat) : lvL b m n = lvL c m n := by
  unfold lvL loR hiR lieR moB
  rw [h.r, h.m]
theorem Crs.other {b b' : Bd} {p p' : Nat → Bool} {c : Nat → Nat} (h : Crs b p c) (e : SameB b b') (hag : ∀ m, m ≤ b.months.length → agB b p m (c m) = true → agB b' p' m (c m) = true) : Crs b' p' c :=
  ⟨by rw [← e.f, ← e.u]; exact h.st, fun m hm => by rw [← e.r]; exact h.rm m (by rw [e.m]; exact hm), fun m hm => hag m (by rw [e.m]; exact hm) (h.ag m (by rw [e.m]; exact hm)), fun m hm => by rw [← e.lv]; exact h.nx m (by rw [e.m]; exact hm)⟩
theorem RealB.nx {b : Bd} (ok : BedOk b) {re : List Int} {ch : List (Int × Int)} (h : RealB b re ch) (hl : re.length = b.months.length + 1) {m : Nat} (hm : m < b.months.length) : (re.getD (m + 1) default).toNat ∈ lvL b m (re.getD m default).toNat := by
  obtain ⟨a1, a2, a3, a4, a5⟩ := h.al m hm
  have b1 := h.b0 _ (getD_mem (xs := re) (d := default) (i := m) (by omega))
  have b2 := h.b0 _ (getD_mem (xs := re) (d := default) (i := m + 1) (by omega))
  refine (mem_lv ok hm).2 ⟨_, _, ⟨a1, a2, a3, a4⟩, ?_⟩
  unfold grC
  rw [Int.toNat_of_nonneg b1.1, Int.toNat_of_nonneg b2.1]
  exact a5
end GA
end

section
namespace GA
open Go Go.RowKit Go.Proofs
set_option pp.deepTerms true
set_option maxRecDepth 8000
set_option linter.unusedVariables false
set_option linter.unusedSimpArgs false

theorem dup_mo (nl : Bool) (xs : List Mo) (hx : xs.length ≤ 100000) : Comp Try.prog 99 [.sl nl (xs.map moA)] (.sl false (xs.map moA)) := by
  refine Comp.body (T := tab) (res := [.tmp 2]) tab_ok [] Try.func99 rfl (by kernel_rfl) Try.ntmps99 rfl (by simp only [List.length_cons, List.length_nil]; decide) (by simp only [lowL, AV.low, lowMo]; rfl) ?_; conv => whnf
  refine XHold.mk ⟨by omega, by simp, by unfold Room; simp; omega⟩ ?_
  conv => whnf
  refine XHold.mk (wideMo xs) ?_
  conv => whnf
  refine XHold.mk ⟨rfl, rfl, by unfold Room; simp; omega⟩ ?_
  conv => whnf
  exact ⟨Froz.grow rfl (by simp) (lowMo xs)⟩
theorem dup_su (nl : Bool) (xs : List Su) (hx : xs.length ≤ 100000) : Comp Try.prog 100 [.sl nl (xs.map suA)] (.sl false (xs.map suA)) := by
  refine Comp.body (T := tab) (res := [.tmp 2]) tab_ok [] Try.func100 rfl (by kernel_rfl) Try.ntmps100 rfl (by simp only [List.length_cons, List.length_nil]; decide) (by simp only [lowL, AV.low, lowSu]; rfl) ?_; conv => whnf
  refine XHold.mk ⟨by omega, by simp, by unfold Room; simp; omega⟩ ?_
  conv => whnf
  refine XHold.mk (wideSu xs) ?_
  conv => whnf
  refine XHold.mk ⟨rfl, rfl, by unfold Room; simp; omega⟩ ?_
  conv => whnf
  exact ⟨Froz.grow rfl (by simp) (lowSu xs)⟩
def ownB (b : Bd) : Bd := { b with nlm := false, nls := false }
theorem own04_c (b : Bd) (h1 : b.months.length ≤ 100000) (h2 : b.surveys.length ≤ 100000) : Comp Try.prog 26 [bedA b] (bedA (ownB b)) := by
  refine Comp.body (T := tab) (res := [.cell 2 26]) tab_ok [1] Try.func26 rfl (by kernel_rfl) Try.ntmps26 rfl (by simp only [List.length_cons, List.length_nil]; decide) (by simp only [lowL, bedL]; rfl) ?_; conv => whnf
  repeat' first | (with_reducible apply XAnd.mk) | ((first | (with_reducible apply Chk.go) | (with_reducible apply ChkA.go) | (with_reducible apply ChkF.go) | (with_reducible apply ChkB.go)); conv => whnf) | (exact XSame.mk rfl rfl) | (with_reducible exact trivial) | (apply Walk.drawN (id := 1) tab_ok mixed_ok [1] [7, 9] (hsC [_, _, _]) [_, _, _, _, _, _, _, _, _, _] (by kernel_rfl) rfl) | ((first | (with_reducible apply XNext.mk) | (refine XCall.ret (dup_mo _ b.months h1) ?_) | (refine XCall.ret (dup_su _ b.surveys h2) ?_)); conv => whnf) | fail
  exact ⟨Froz.low (bedL (ownB b))⟩
theorem equal_mo (n1 n2 : Bool) (xs : List Mo) (hx : xs.length ≤ 100000) : Comp Try.prog 171 [.sl n1 (xs.map moA), .sl n2 (xs.map moA)] (.bool true) := by
  refine Comp.body (T := tab) (res := [.tmp 4]) tab_ok [] Try.func171 rfl (by kernel_rfl) Try.ntmps171 rfl (by simp only [List.length_cons, List.length_nil]; decide) (by simp only [lowL, AV.low, lowMo]; rfl) ?_; conv => whnf
  repeat' first | ((with_reducible apply XBr.bne) <;> (intro h; first | (exfalso; omega) | (conv => whnf))) | fail
  refine Walk.loop tab_ok [] (fun i : Nat => i ≤ xs.length) (fun i => [(0, .sl n1 (xs.map moA)), (1, .sl n2 (xs.map moA)), (12, .int .i64 xs.length), (13, .int .i64 i)]) (fun _ => []) (fun i => xs.length - i) 0 (Nat.zero_le _) rfl ⟨rfl, rfl, by simp only [List.length_map]; rfl, rfl, trivial⟩ ?_
  intro i hi
  conv => whnf
  repeat' first | ((with_reducible apply XBr.ff); conv => whnf) | ((with_reducible apply XBr.dec) <;> (intro h; first | (exfalso; omega) | ((try simp only [List.length_map] at h); first | (exfalso; omega) | (conv => whnf)))) | ((first | (with_reducible refine XInt.i64 (by omega) (by omega) ?_) | ((with_reducible refine XIx.nat ?_ ?_ ?_); omega; (intro _; rfl))); conv => whnf) | (with_reducible apply XAnd.mk) | ((first | (with_reducible apply Chk.go) | (with_reducible apply ChkA.go) | (with_reducible apply ChkF.go) | (with_reducible apply ChkB.go)); conv => whnf) | (exact XSame.mk rfl rfl) | (with_reducible exact trivial) | (apply Walk.drawN (id := 6) tab_ok mixed_ok [] [] (hsU _) [_, _, _, _, _, _, _, _, _] (by kernel_rfl) rfl) | ((with_reducible apply XNext.mk); conv => whnf) | ((refine XEqA.mk ⟨[(xs.getD i default).g, (xs.getD i default).r, (xs.getD i default).pl, (xs.getD i default).ph, (xs.getD i default).tl, (xs.getD i default).th], [(xs.getD i default).g, (xs.getD i default).r, (xs.getD i default).pl, (xs.getD i default).ph, (xs.getD i default).tl, (xs.getD i default).th], rfl, rfl, rfl, rfl, ?_⟩); exact XSame.mk (show AV.bool (!(_ == _)) = AV.bool false by simp) rfl) | fail
  · exact XAgain.go (i + 1) (by omega) (by omega) rfl ⟨rfl, rfl, rfl, rfl, trivial⟩
  · exact XOut.bool rfl
theorem equal_su (n1 n2 : Bool) (xs : List Su) (hx : xs.length ≤ 100000) : Comp Try.prog 172 [.sl n1 (xs.map suA), .sl n2 (xs.map suA)] (.bool true) := by
  refine Comp.body (T := tab) (res := [.tmp 4]) tab_ok [] Try.func172 rfl (by kernel_rfl) Try.ntmps172 rfl (by simp only [List.length_cons, List.length_nil]; decide) (by simp only [lowL, AV.low, lowSu]; rfl) ?_; conv => whnf
  repeat' first | ((with_reducible apply XBr.bne) <;> (intro h; first | (exfalso; omega) | (conv => whnf))) | fail
  refine Walk.loop tab_ok [] (fun i : Nat => i ≤ xs.length) (fun i => [(0, .sl n1 (xs.map suA)), (1, .sl n2 (xs.map suA)), (12, .int .i64 xs.length), (13, .int .i64 i)]) (fun _ => []) (fun i => xs.length - i) 0 (Nat.zero_le _) rfl ⟨rfl, rfl, by simp only [List.length_map]; rfl, rfl, trivial⟩ ?_
  intro i hi
  conv => whnf
  repeat' first | ((with_reducible apply XBr.ff); conv => whnf) | ((with_reducible apply XBr.dec) <;> (intro h; first | (exfalso; omega) | ((try simp only [List.length_map] at h); first | (exfalso; omega) | (conv => whnf)))) | ((first | (with_reducible refine XInt.i64 (by omega) (by omega) ?_) | ((with_reducible refine XIx.nat ?_ ?_ ?_); omega; (intro _; rfl))); conv => whnf) | (with_reducible apply XAnd.mk) | ((first | (with_reducible apply Chk.go) | (with_reducible apply ChkA.go) | (with_reducible apply ChkF.go) | (with_reducible apply ChkB.go)); conv => whnf) | (exact XSame.mk rfl rfl) | (with_reducible exact trivial) | (apply Walk.drawN (id := 6) tab_ok mixed_ok [] [] (hsU _) [_, _, _, _, _, _, _, _, _] (by kernel_rfl) rfl) | ((with_reducible apply XNext.mk); conv => whnf) | ((refine XEqA.mk ⟨[(xs.getD i default).m, (xs.getD i default).lo, (xs.getD i default).hi], [(xs.getD i default).m, (xs.getD i default).lo, (xs.getD i default).hi], rfl, rfl, rfl, rfl, ?_⟩); exact XSame.mk (show AV.bool (!(_ == _)) = AV.bool false by simp) rfl) | fail
  · exact XAgain.go (i + 1) (by omega) (by omega) rfl ⟨rfl, rfl, rfl, rfl, trivial⟩
  · exact XOut.bool rfl
theorem eq_mo (n1 n2 : Bool) (xs : List Mo) (hx : xs.length ≤ 100000) : Comp Try.prog 105 [.sl n1 (xs.map moA), .sl n2 (xs.map moA)] (.bool true) := by
  refine Comp.body (T := tab) (res := [.tmp 4]) tab_ok [] Try.func105 rfl (by kernel_rfl) Try.ntmps105 rfl (by simp only [List.length_cons, List.length_nil]; decide) (by simp only [lowL, AV.low, lowMo]; rfl) ?_; conv => whnf
  repeat' first | ((refine XCall.ret (equal_mo n1 n2 xs hx) ?_); conv => whnf) | fail
  exact XOut.bool rfl
theorem eq_su (n1 n2 : Bool) (xs : List Su) (hx : xs.length ≤ 100000) : Comp Try.prog 106 [.sl n1 (xs.map suA), .sl n2 (xs.map suA)] (.bool true) := by
  refine Comp.body (T := tab) (res := [.tmp 4]) tab_ok [] Try.func106 rfl (by kernel_rfl) Try.ntmps106 rfl (by simp only [List.length_cons, List.length_nil]; decide) (by simp only [lowL, AV.low, lowSu]; rfl) ?_; conv => whnf
  repeat' first | ((refine XCall.ret (equal_su n1 n2 xs hx) ?_); conv => whnf) | fail
  exact XOut.bool rfl
theorem same04_c (b : Bd) (h1 : b.months.length ≤ 100000) (h2 : b.surveys.length ≤ 100000) : Comp Try.prog 32 [bedA (ownB b), bedA b] (.bool true) := by
  refine Comp.body (T := tab) (res := [.tmp 4]) tab_ok [] Try.func32 rfl (by kernel_rfl) Try.ntmps32 rfl (by simp only [List.length_cons, List.length_nil]; decide) (by simp only [lowL, bedL]; rfl) ?_; conv => whnf
  refine Walk.norm tab_ok [] [(2, _), (3, _)] ⟨rfl, rfl, trivial⟩ ?_
  conv => whnf
  repeat' first | ((first | (with_reducible apply XBr.tt) | (with_reducible apply XBr.ff)); conv => whnf) | ((with_reducible apply XBr.beq) <;> (intro h; first | (exfalso; omega) | (conv => whnf))) | ((first | (refine XCall.ret (eq_mo _ _ b.months h1) ?_) | (refine XCall.ret (eq_su _ _ b.surveys h2) ?_)); conv => whnf) | fail
  all_goals first | exact XOut.bool rfl | (exfalso; exact absurd rfl (by assumption))
def great04 (b : Bd) : Bool := decide (14 < b.months.length) || decide (12 < b.surveys.length)
theorem great04_c (b : Bd) : Comp Try.prog 25 [bedA b] (.bool (great04 b)) := by
  have e1 : ((b.months.map moA).length : Int) = b.months.length := by rw [List.length_map]
  have e2 : ((b.surveys.map suA).length : Int) = b.surveys.length := by rw [List.length_map]
  refine Comp.body (T := tab) (res := [.tmp 2]) tab_ok [] Try.func25 rfl (by kernel_rfl) Try.ntmps25 rfl (by simp only [List.length_cons, List.length_nil]; decide) (by simp only [lowL, bedL]; rfl) ?_; conv => whnf
  repeat' first | ((first | (with_reducible apply XBr.tt) | (with_reducible apply XBr.ff)); conv => whnf) | ((with_reducible apply XBr.dec) <;> (intro h; first | (exfalso; omega) | ((try simp only [List.length_map] at h); first | (exfalso; omega) | (conv => whnf)))) | fail
  all_goals
    refine XOut.bool ?_
    unfold great04
    rw [Bool.eq_iff_iff]
    simp only [Bool.or_eq_true, decide_eq_true_eq, Bool.or_assoc, Bool.true_eq_false, Bool.false_eq_true, true_iff, false_iff, iff_true, iff_false]
    omega
def thB (b : Bd) : Bd := { b with nlm := b.months.isEmpty, nls := b.surveys.isEmpty }
theorem theirs04_c (b : Bd) (h1 : b.months.length ≤ 100000) (h2 : b.surveys.length ≤ 100000) : Comp Try.prog 28 [bedA b] (bedA (thB b)) := by
  have e1 : ((b.months.map moA).length : Int) = b.months.length := by rw [List.length_map]
  have e2 : ((b.surveys.map suA).length : Int) = b.surveys.length := by rw [List.length_map]
  refine Comp.body (T := tab) (res := [.cell 2 47]) tab_ok [2, 3] Try.func28 rfl (by kernel_rfl) Try.ntmps28 rfl (by simp only [List.length_cons, List.length_nil]; decide) (by simp only [lowL, bedL]; rfl) ?_; conv => whnf
  skip
  refine Walk.nilcell 1 3 162 rfl rfl ?_
  refine Walk.loopGK tab_ok [] [(1, _), (2, _), (3, _), (16, _), (17, _)] ⟨rfl, rfl, rfl, rfl, rfl, trivial⟩ (fun k : Nat => k ≤ b.months.length) (fun k => [(18, natA k)]) (fun k => [.cells [.int .i64 0, .int .i64 0, .int .i64 0, .sl true [], .sl true []], .cells [.int .i64 b.room, .int .i64 b.first, .int .i64 b.unsure, .gr 2 k, .sl true []], .grow 162 (b.months.take k).isEmpty ((b.months.take k).map moA)]) (fun k => b.months.length - k) 0 (Nat.zero_le _) rfl ⟨rfl, trivial⟩ ?_ (fun _ _ => (show (3 : Nat) ≤ 3 from Nat.le_refl 3)) ?_
  · intro k _
    refine ⟨fun z hz => ?_, fun z hz => ?_⟩
    · simp only [List.mem_cons, List.not_mem_nil, or_false] at hz
      rcases hz with rfl | rfl | rfl <;> first | exact lowMo _ | rfl
    · simp only [List.cons_append, List.nil_append, List.mem_cons, List.not_mem_nil, or_false] at hz
      rcases hz with rfl | rfl | rfl | rfl | rfl | rfl <;> first | rfl | exact lowMo _ | exact lowBd b
  intro k hk
  have hl : (b.months.take k).length = k := by rw [List.length_take]; omega
  have hnx := fun h => take_next (xs := b.months) (i := k) h
  have hall : k = b.months.length → b.months.take k = b.months := fun h => by rw [h, List.take_length]
  generalize b.months.take k = ss at hl hnx hall
  conv => whnf
  repeat' first | ((with_reducible apply XBr.dec) <;> (intro h; first | (exfalso; omega) | ((try simp only [List.length_map] at h); first | (exfalso; omega) | (conv => whnf)))) | ((with_reducible refine XInt.i64 (by omega) (by omega) ?_); conv => whnf) | ((with_reducible refine XHold.mk ?_ ?_); (first | omega | rfl | decide | exact ⟨rfl, by decide, rfl⟩ | exact wideI _ | exact widePr _ | exact wideSk _ | (unfold Room; constructor <;> ((try simp) <;> omega)) | exact ⟨rfl, by simp only [List.length_map], by unfold Room; constructor <;> ((try simp) <;> omega)⟩ | exact ⟨by omega, by omega, by unfold Room; constructor <;> ((try simp) <;> omega)⟩); conv => whnf) | (((with_reducible refine XIx.nat ?_ ?_ ?_); omega; (intro _; rfl)); conv => whnf) | fail
  · refine XAgainG.go (k + 1) [.cells (moC (moB b k))] (by omega) (by omega) ?_ ⟨rfl, rfl, rfl, rfl, rfl, rfl, trivial⟩
    rw [hnx (by omega)]; simp only [List.map_append, isEmpty_app]; rfl
  have e := hall (by omega)
  subst e
  obtain rfl : k = b.months.length := by omega
  clear hl hnx hall hk
  refine Walk.nilcell 1 4 163 rfl rfl ?_
  refine Walk.loopGK tab_ok [] [(1, _), (2, _), (3, _), (30, _), (31, _)] ⟨rfl, rfl, rfl, rfl, rfl, trivial⟩ (fun k : Nat => k ≤ b.surveys.length) (fun k => [(32, natA k)]) (fun k => [.cells [.int .i64 0, .int .i64 0, .int .i64 0, .sl true [], .sl true []], .cells [.int .i64 b.room, .int .i64 b.first, .int .i64 b.unsure, .gr 2 b.months.length, .gr 3 k], .grow 162 b.months.isEmpty (b.months.map moA), .grow 163 (b.surveys.take k).isEmpty ((b.surveys.take k).map suA)]) (fun k => b.surveys.length - k) 0 (Nat.zero_le _) rfl ⟨rfl, trivial⟩ ?_ (fun _ _ => (show (4 : Nat) ≤ 4 from Nat.le_refl 4)) ?_
  · intro k _
    refine ⟨fun z hz => ?_, fun z hz => ?_⟩
    · simp only [List.mem_cons, List.not_mem_nil, or_false] at hz
      rcases hz with rfl | rfl | rfl | rfl <;> first | exact lowMo _ | exact lowSu _ | rfl
    · simp only [List.cons_append, List.nil_append, List.mem_cons, List.not_mem_nil, or_false] at hz
      rcases hz with rfl | rfl | rfl | rfl | rfl | rfl <;> first | rfl | exact lowSu _ | exact lowBd b
  intro k hk
  have hl : (b.surveys.take k).length = k := by rw [List.length_take]; omega
  have hnx := fun h => take_next (xs := b.surveys) (i := k) h
  have hall : k = b.surveys.length → b.surveys.take k = b.surveys := fun h => by rw [h, List.take_length]
  generalize b.surveys.take k = ss at hl hnx hall
  conv => whnf
  repeat' first | ((with_reducible apply XBr.dec) <;> (intro h; first | (exfalso; omega) | ((try simp only [List.length_map] at h); first | (exfalso; omega) | (conv => whnf)))) | ((with_reducible refine XInt.i64 (by omega) (by omega) ?_); conv => whnf) | ((with_reducible refine XHold.mk ?_ ?_); (first | omega | rfl | decide | exact ⟨rfl, by decide, rfl⟩ | exact wideI _ | exact widePr _ | exact wideSk _ | (unfold Room; constructor <;> ((try simp) <;> omega)) | exact ⟨rfl, by simp only [List.length_map], by unfold Room; constructor <;> ((try simp) <;> omega)⟩ | exact ⟨by omega, by omega, by unfold Room; constructor <;> ((try simp) <;> omega)⟩); conv => whnf) | (((with_reducible refine XIx.nat ?_ ?_ ?_); omega; (intro _; rfl)); conv => whnf) | fail
  · refine XAgainG.go (k + 1) [.cells (suA (b.surveys.getD k default)).cells] (by omega) (by omega) ?_ ⟨rfl, rfl, rfl, rfl, rfl, rfl, trivial⟩
    rw [hnx (by omega)]; simp only [List.map_append, isEmpty_app]; rfl
  have e := hall (by omega)
  subst e
  obtain rfl : k = b.surveys.length := by omega
  skip
  exact ⟨Froz.agg (rs' := bedC (thB b)) (bedOne _) (.cons (Froz.low rfl) (.cons (Froz.low rfl) (.cons (Froz.low rfl) (.cons (Froz.grow (i := 2) rfl (by rw [List.length_map]; rfl) (lowMo _)) (.cons (Froz.grow (i := 3) rfl (by rw [List.length_map]; rfl) (lowSu _)) .nil)))))⟩
theorem off04_c (n lo hi : Int) : Comp Try.prog 101 [.int .i64 n, .int .i64 lo, .int .i64 hi] (.bool (!inZ n lo hi)) := by
  refine Comp.body (T := tab) (res := [.tmp 6]) tab_ok [] Try.func101 rfl (by kernel_rfl) Try.ntmps101 rfl (by simp only [List.length_cons, List.length_nil]; decide) (by rfl) ?_; conv => whnf
  repeat' first | ((first | (with_reducible apply XBr.tt) | (with_reducible apply XBr.ff)); conv => whnf) | ((with_reducible apply XBr.dec) <;> (intro h; first | (exfalso; omega) | ((try simp only [List.length_map] at h); first | (exfalso; omega) | (conv => whnf)))) | fail
  all_goals (refine XOut.bool ?_; rw [Bool.eq_iff_iff]; simp [inZ]; try omega)
theorem bad04_c (l h hi : Int) : Comp Try.prog 108 [spA l h, .int .i64 hi] (.bool (!withinB l h 0 hi)) := by
  refine Comp.body (T := tab) (res := [.tmp 4]) tab_ok [] Try.func108 rfl (by kernel_rfl) Try.ntmps108 rfl (by simp only [List.length_cons, List.length_nil]; decide) (by rfl) ?_; conv => whnf
  repeat' first | ((first | (with_reducible apply XBr.tt) | (with_reducible apply XBr.ff)); conv => whnf) | (with_reducible apply XBr.not) | ((refine XCall.ret (off04_c _ _ _) ?_); conv => whnf) | ((with_reducible apply XBr.mk') <;> (intro h; conv => whnf)) | fail
  all_goals (refine XOut.bool ?_; rw [Bool.eq_iff_iff]; simp [inZ, withinB] at *; try omega)
theorem refGross_c (b : Bd) (m : Mo) (a sp st : Int) (h1 : 0 ≤ a) (h2 : a ≤ 1000) (h3 : 0 ≤ m.g) (h4 : m.g ≤ 100) (h5 : 0 ≤ b.room) (h6 : b.room ≤ 1000) (h7 : 0 ≤ sp) (h8 : sp ≤ 1000) (h9 : 0 ≤ st) (h10 : st ≤ 1000) :
    Comp Try.prog 102 [bedA b, moA m, .int .i64 a, chA sp st] (.int .i64 (grossR b.room m.g a sp st)) := by
  have q1 : 0 ≤ a * m.g := Int.mul_nonneg h1 h3
  have q2 : a * m.g ≤ 1000 * 100 := Int.mul_le_mul h2 h4 h3 (by omega)
  have q3 : (a * m.g).tdiv 100 = (a * m.g) / 100 := Int.tdiv_eq_ediv_of_nonneg q1
  refine Comp.body (T := tab) (res := [.tmp 8]) tab_ok [] Try.func102 rfl (by kernel_rfl) Try.ntmps102 rfl (by simp only [List.length_cons, List.length_nil]; decide) (by simp only [lowL, bedL, moL, AV.low]; rfl) ?_; conv => whnf
  repeat' first | ((with_reducible apply XBr.dec) <;> (intro h; first | (exfalso; omega) | ((try simp only [List.length_map] at h); first | (exfalso; omega) | (conv => whnf)))) | ((with_reducible refine XInt.i64 (by omega) (by omega) ?_); conv => whnf) | ((with_reducible refine XHold.mk ?_ ?_); (first | omega | rfl | decide | exact ⟨rfl, by decide, rfl⟩ | exact wideI _ | exact widePr _ | exact wideSk _ | (unfold Room; constructor <;> ((try simp) <;> omega)) | exact ⟨rfl, by simp only [List.length_map], by unfold Room; constructor <;> ((try simp) <;> omega)⟩ | exact ⟨by omega, by omega, by unfold Room; constructor <;> ((try simp) <;> omega)⟩); conv => whnf) | fail
  all_goals (refine XOut.int ?_; unfold grossR; omega)
end GA
end
