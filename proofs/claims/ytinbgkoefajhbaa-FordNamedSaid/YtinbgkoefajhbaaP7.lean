/- Part 7 of a proof: F80. -/
import Derived.Test.YtinbgkoefajhbaaP6
section
namespace GA
open Go Go.RowKit Go.Proofs
set_option pp.deepTerms true
set_option maxRecDepth 8000
set_option linter.unusedVariables false
set_option linter.unusedSimpArgs false

def ordF {α : Type} (n : Nat) (g : Nat → Nat) (A : Nat → α) (B : α) (k : Nat) : List α := vecF n fun j => if g j < k then A j else B
theorem ordF_len {α : Type} (n : Nat) (g : Nat → Nat) (A : Nat → α) (B : α) (k : Nat) : (ordF n g A B k).length = n := vecF_len _ _
theorem ordF_0 {α : Type} (n : Nat) (g : Nat → Nat) (A : Nat → α) (B : α) : ordF n g A B 0 = List.replicate n B := by
  unfold ordF
  rw [vecF_congr (G := fun _ => B) fun j _ => if_neg (Nat.not_lt_zero _), vecF_replicate]
theorem ordF_end {α : Type} {n : Nat} {f g : Nat → Nat} (h : PermOk n f g) (A : Nat → α) (B : α) : ordF n g A B n = vecF n A := vecF_congr fun j hj => if_pos (h.g_lt j hj)
theorem ordF_set {α : Type} {n : Nat} {f g : Nat → Nat} (h : PermOk n f g) {A : Nat → α} {B v : α} {k : Nat} (hk : k < n) (hv : v = A (f k)) : (ordF n g A B k).set (f k) v = ordF n g A B (k + 1) := by
  unfold ordF
  rw [vecF_set]
  refine vecF_congr fun j hj => ?_
  show (if j = f k then v else if g j < k then A j else B) = if g j < k + 1 then A j else B
  by_cases e : j = f k
  · rw [if_pos e, if_pos (by rw [e, h.gf k hk]; omega), hv, e]
  · have hn : g j ≠ k := fun e2 => e (by rw [← e2, h.fg j hj])
    rw [if_neg e]
    by_cases h2 : g j < k
    · rw [if_pos h2, if_pos (by omega)]
    · rw [if_neg h2, if_neg (by omega)]
theorem ordF_low {n m : Nat} {g : Nat → Nat} {A : Nat → AV} {B : AV} {k : Nat} (hA : ∀ j, (A j).low m = true) (hB : B.low m = true) : lowL m (ordF n g A B k) = true := by
  rw [lowL_iff]
  intro x hx
  obtain ⟨j, -, rfl⟩ := vecF_mem.1 hx
  split
  · exact hA j
  · exact hB
theorem froz_truN {H : List Blk} {i n : Nat} {els : List AV} {ds : List (List Sps)} (hb : lget H i = some (.grow 37 false els)) (hn : els.length = n) (he : els = ds.map fun d => .sl false (d.map spsA)) : Froz Try.prog H (.gr i n) (.sl false (ds.map fun d => .agg [.sl false (d.map spsA)])) := by
  have h2 : ∀ x ∈ ds.map (fun d => AV.sl false (d.map spsA)), x.one = true := fun x hx => by obtain ⟨d, -, rfl⟩ := List.mem_map.1 hx; rfl
  have hl : ∀ x ∈ ds.map (fun d => AV.sl false (d.map spsA)), x.low 0 = true := fun x hx => by obtain ⟨d, -, rfl⟩ := List.mem_map.1 hx; exact lowSps d
  have hfl : flat (ds.map fun d => AV.agg [.sl false (d.map spsA)]) = ds.map fun d => AV.sl false (d.map spsA) := by
    rw [← flat_one h2]
    unfold flat
    rw [List.flatMap_map, List.flatMap_map]; rfl
  subst he
  refine Froz.gr (nl := false) hb hn (by rw [List.length_map, List.length_map]) (fun e he => ?_) (fun e he => ?_) (by rw [hfl, flat_one h2]; exact ⟨rfl, fun j x e => ⟨x, e, .low (hl x (List.mem_of_getElem? e))⟩⟩)
  · obtain ⟨d, -, rfl⟩ := List.mem_map.1 he
    show 1 = sz Try.prog 37
    kernel_rfl
  · rw [hfl] at he; exact h2 e he
theorem blockX_thenQ {id : Nat} {K : List Nat → St → List Blk → Prop} {Q : Post} {D : List Nat} {σ : St} {H : List Blk} (h : K D σ H) : blockX id (thenQ K Q) (.exit id) D σ H := by
  show (match Nat.beq id id with | true => thenQ K Q .normal D σ H | false => thenQ K Q (.exit id) D σ H)
  rw [Nat.beq_refl]; exact h
def lkA (s : Sn) (g b : Nat → Nat) (j : Nat) : AV := rwA (nmR s g b j)
def tdA (s : Sn) (g b : Nat → Nat) (j : Nat) : AV := .sl false ((nmD s g b j).2.map spsA)
def riA (s : Sn) (g : Nat → Nat) (k q : Nat) : AV := .int .i64 ((s.looks.getD k default).2.getD (g q) default)
def rdA (s : Sn) (g : Nat → Nat) (k q : Nat) : AV := spsA (false, ((s.truths.getD k default).2.getD (g q) default).2)
theorem ri_end {s : Sn} {f g a b : Nat → Nat} (hf : PermOk s.places.toNat f g) (ha : PermOk s.truths.length a b) {k : Nat} (hk : k < s.truths.length) : AV.sl false (ordF s.places.toNat g (riA s g k) (.int .i64 0) s.places.toNat) = lkA s g b (a k) := by
  rw [ordF_end hf]
  unfold lkA nmR rwA ints riA
  dsimp only
  rw [vecF_map, ha.gf k hk]
theorem rd_end {s : Sn} {f g a b : Nat → Nat} (hf : PermOk s.places.toNat f g) (ha : PermOk s.truths.length a b) {k : Nat} (hk : k < s.truths.length) : AV.sl false (ordF s.places.toNat g (rdA s g k) (.sl true []) s.places.toNat) = tdA s g b (a k) := by
  rw [ordF_end hf]
  unfold tdA nmD rdA
  dsimp only
  rw [vecF_map, ha.gf k hk]
theorem lk_end {s : Sn} {g a b : Nat → Nat} (ha : PermOk s.truths.length a b) : ordF s.truths.length b (lkA s g b) (.sl true []) s.truths.length = (vecF s.truths.length (nmR s g b)).map rwA := by
  rw [ordF_end ha, vecF_map]; rfl
theorem td_end {s : Sn} {g a b : Nat → Nat} (ha : PermOk s.truths.length a b) : ordF s.truths.length b (tdA s g b) (.agg [.sl true []]) s.truths.length = (vecF s.truths.length fun j => (nmD s g b j).2).map fun d => .sl false (d.map spsA) := by
  rw [ordF_end ha, vecF_map]; rfl
theorem nm_tr (s : Sn) (g b : Nat → Nat) : (vecF s.truths.length (nmD s g b)).map trA = (vecF s.truths.length fun j => (nmD s g b j).2).map fun d => .agg [.sl false (d.map spsA)] := by
  rw [vecF_map, vecF_map]; rfl
set_option maxHeartbeats 8000000 in
theorem fordNamed_c (n1 n2 : Bool) (xs ys : List Int) (w3 w4 : Int) (hx : xs.length < 9223372036854775808) (hy : ys.length < 9223372036854775808) (hw3 : 0 ≤ w3 ∧ w3 ≤ 255) (hw4 : 0 ≤ w4 ∧ w4 ≤ 255) :
    Comp Try.prog 5 [.sl n1 (bytes xs), .sl n2 (bytes ys), .int .u8 w3, .int .u8 w4] (.bool true) := by
  have hmk := fordMade_c (hp0 n1 xs) 16 (hpB_ok hx) (by omega) (by omega)
  have hq0 := hpB_ok (nl := n2) hy
  refine Comp.body (T := tab) (res := [.tmp 8]) tab_ok [] Try.func5 rfl (by kernel_rfl) Try.ntmps5 rfl (by simp only [List.length_cons, List.length_nil]; decide) (by simp only [lowL, AV.low, lowBy]; rfl) ?_; conv => whnf
  repeat' first | (refine XCall.inl (T := tab) (res := [.tmp 2]) tab_ok [5] Try.func8 rfl (by kernel_rfl) Try.ntmps8 rfl (by simp only [List.length_append, List.length_cons, List.length_nil]; decide) ?_; conv => whnf) | fail
  refine XCall.hpE (j := 0) hmk rfl ?_
  rintro _ u1 ⟨s, rfl, mk, ou1⟩
  have ok := mk.ok
  have hb := mk.b
  have h1 := ok.h1; have b1 := ok.b1; have p1 := ok.p1; have p2 := ok.p2; have l1 := ok.l1; have l2 := ok.l2; have t1 := ok.t1; have t2 := ok.t2; have k1 := ok.k1; have w1 := ok.w1
  have e3 : ((s.truths.map trA).length : Int) = s.truths.length := by rw [List.length_map]
  have eP : ((s.places.toNat : Nat) : Int) = s.places := Int.toNat_of_nonneg (by omega)
  obtain ⟨f, g, hf, hL1⟩ := ord_perm (hp0 n2 ys) s.places.toNat hq0
  obtain ⟨a, b, ha, hL2⟩ := ord_perm (ordK (hp0 n2 ys) s.places.toNat).2 s.truths.length (ordK_ok hq0 _).1
  have ho1 : HpOk 19 [.int .i64 s.places] (hp0 n2 ys) (slA (ordK (hp0 n2 ys) s.places.toNat).1) (ordK (hp0 n2 ys) s.places.toNat).2 := by
    have h := order_c (hp0 n2 ys) s.places.toNat hq0 (by omega)
    unfold natA at h; rw [eP] at h; exact h
  have ho2 : HpOk 19 [.int .i64 ((s.truths.map trA).length : Int)] (ordK (hp0 n2 ys) s.places.toNat).2 (slA (ordK (ordK (hp0 n2 ys) s.places.toNat).2 s.truths.length).1) (ordK (ordK (hp0 n2 ys) s.places.toNat).2 s.truths.length).2 := by
    rw [e3]; exact order_c _ s.truths.length (ordK_ok hq0 _).1 (by omega)
  generalize (ordK (ordK (hp0 n2 ys) s.places.toNat).2 s.truths.length).1 = L2 at ho2 hL2
  generalize (ordK (ordK (hp0 n2 ys) s.places.toNat).2 s.truths.length).2 = q2 at ho2
  generalize (ordK (hp0 n2 ys) s.places.toNat).1 = L1 at ho1 hL1
  generalize (ordK (hp0 n2 ys) s.places.toNat).2 = q1 at ho1 ho2
  have lo1 : (slA L1).low 0 = true := lowI _
  have lo2 : (slA L2).low 0 = true := lowI _
  have hL1l := hL1.l
  have hL2l := hL2.l
  have hvh := hL1.v s.home.toNat (by omega)
  have hvb := hL1.v s.bed.toNat (by omega)
  conv => whnf
  repeat' first | (with_reducible apply XAnd.mk) | ((first | (with_reducible apply Chk.go) | (with_reducible apply ChkA.go) | (with_reducible apply ChkF.go) | (with_reducible apply ChkB.go)); conv => whnf) | (exact XSame.mk rfl rfl) | (with_reducible exact trivial) | (apply Walk.drawN (id := 3) tab_ok mixed_ok [] [3, 8] (hsC [_, _, _]) [_, _, _, _, _, _, _, _, _, _, _] (lex_of (by kernel_rfl)) rfl) | ((with_reducible apply XNext.mk); conv => whnf) | (refine XCall.inl (T := tab) (res := [.tmp 2]) tab_ok [5] Try.func8 rfl (by kernel_rfl) Try.ntmps8 rfl (by simp only [List.length_append, List.length_cons, List.length_nil]; decide) ?_; conv => whnf) | ((first | (refine XCall.hp (j := 2) ho1 lo1 rfl ?_) | (refine XCall.hp (j := 2) ho2 lo2 rfl ?_)); conv => whnf) | fail
  refine Walk.heapE [hpC u1, .cells (snC s), hpC q2] rfl ?_
  refine Walk.place (Walk.place (Walk.place ?_))
  apply Walk.drawX tab_ok mixed_ok [] [17, 21, 23, 24] (fun fl => match fl with
    | [x, y, z, t] => [hpC u1, .cells (snC s), hpC q2, (bif x then .grow 43 false (List.replicate (((s.truths.map trA).length : Nat) : Int).toNat (.sl true [])) else .free), (bif y then .grow 37 false (List.replicate (((s.truths.map trA).length : Nat) : Int).toNat (.agg [.sl true []])) else .free),
        (bif z then .cells (bif t then [.int .i64 s.places, .int .i64 (L1.getD s.home.toNat default), .int .i64 (L1.getD s.bed.toNat default), .int .i64 s.last, .sl true [], .gr 3 (((s.truths.map trA).length : Nat) : Int).toNat, .gr 4 (((s.truths.map trA).length : Nat) : Int).toNat] else [.int .i64 0, .int .i64 0, .int .i64 0, .int .i64 0, .sl true [], .sl true [], .sl true []]) else .free)]
    | _ => []) [_, _, _, _, _, _, _, _, _, _, _, _, _, _, _, _, _, .gr 3 (((s.truths.map trA).length : Nat) : Int).toNat, _, _, _, .gr 4 (((s.truths.map trA).length : Nat) : Int).toNat, _, .ptr 5 0, .tup []] (lex_of (by kernel_rfl)) rfl
  · skip
    repeat' first | ((with_reducible refine XHold.mk ?_ ?_); (first | omega | rfl | decide | exact ⟨rfl, by decide, rfl⟩ | exact wideI _ | exact widePr _ | exact wideSk _ | (unfold Room; constructor <;> ((try simp) <;> omega)) | exact ⟨rfl, by simp only [List.length_map], by unfold Room; constructor <;> ((try simp) <;> omega)⟩ | exact ⟨by omega, by omega, by unfold Room; constructor <;> ((try simp) <;> omega)⟩); conv => whnf) | (((with_reducible refine XIx.map ?_ ?_ ?_ ?_); omega; omega; (intro _; rfl)); conv => whnf) | (with_reducible apply XAnd.mk) | ((first | (with_reducible apply Chk.go) | (with_reducible apply ChkA.go)); conv => whnf) | (exact XSame.mk rfl rfl) | (with_reducible exact trivial) | (first | ((refine XFree.at 3 rfl ?_); (conv => whnf); exact XSame.mk rfl rfl) | ((refine XFree.at 4 rfl ?_); (conv => whnf); exact XSame.mk rfl rfl) | ((refine XFree.at 5 rfl ?_); (conv => whnf); exact XSame.mk rfl rfl)) | fail
  · skip
    repeat' first | ((with_reducible refine XHold.mk ?_ ?_); (first | omega | rfl | decide | exact ⟨rfl, by decide, rfl⟩ | exact wideI _ | exact widePr _ | exact wideSk _ | (unfold Room; constructor <;> ((try simp) <;> omega)) | exact ⟨rfl, by simp only [List.length_map], by unfold Room; constructor <;> ((try simp) <;> omega)⟩ | exact ⟨by omega, by omega, by unfold Room; constructor <;> ((try simp) <;> omega)⟩); conv => whnf) | (((with_reducible refine XIx.map ?_ ?_ ?_ ?_); omega; omega; (intro _; rfl)); conv => whnf) | (with_reducible apply XAnd.mk) | ((first | (with_reducible apply Chk.go) | (with_reducible apply ChkF.go) | (with_reducible apply ChkB.go)); conv => whnf) | (exact XSame.mk rfl rfl) | (with_reducible exact trivial) | (first | ((refine XFree.at 3 rfl ?_); (conv => whnf); exact XSame.mk rfl rfl) | ((refine XFree.at 4 rfl ?_); (conv => whnf); exact XSame.mk rfl rfl) | ((refine XFree.at 5 rfl ?_); (conv => whnf); exact XSame.mk rfl rfl)) | fail
  conv => whnf
  skip
  refine Walk.heapE [hpC u1, .cells (snC s), hpC q2, .grow 43 false (ordF s.truths.length b (lkA s g b) (.sl true []) 0), .grow 37 false (ordF s.truths.length b (tdA s g b) (.agg [.sl true []]) 0), .cells [.int .i64 s.places, .int .i64 ((f s.home.toNat : Nat) : Int), .int .i64 ((f s.bed.toNat : Nat) : Int), .int .i64 s.last, .sl true [], .gr 3 s.truths.length, .gr 4 s.truths.length]] ?_ ?_
  · rw [ordF_0, ordF_0, ← hvh, ← hvb, show s.truths.length = (((s.truths.map trA).length : Nat) : Int).toNat by omega]; rfl
  refine Walk.nilcell 5 4 56 rfl rfl ?_
  have e4 : ((s.ways.map wyA).length : Int) = s.ways.length := by rw [List.length_map]
  have lo3 : ∀ n k, (Blk.grow 43 false (ordF s.truths.length b (lkA s g b) (.sl true []) k)).low n = true := fun n k => ordF_low (fun j => rwL _) rfl
  have lo4 : ∀ n k, (Blk.grow 37 false (ordF s.truths.length b (tdA s g b) (.agg [.sl true []]) k)).low n = true := fun n k => ordF_low (fun j => lowSps _) rfl
  refine Walk.loopGK tab_ok [] [(2, _), (3, _), (9, _), (11, _), (12, _), (13, _), (72, _), (73, _)] ⟨rfl, rfl, rfl, rfl, rfl, rfl, rfl, rfl, trivial⟩ (fun k : Nat => k ≤ s.ways.length) (fun k => [(74, natA k)]) (fun k => [hpC u1, .cells (snC s), hpC q2, .grow 43 false (ordF s.truths.length b (lkA s g b) (.sl true []) 0), .grow 37 false (ordF s.truths.length b (tdA s g b) (.agg [.sl true []]) 0), .cells [.int .i64 s.places, .int .i64 ((f s.home.toNat : Nat) : Int), .int .i64 ((f s.bed.toNat : Nat) : Int), .int .i64 s.last, .gr 6 k, .gr 3 s.truths.length, .gr 4 s.truths.length], .grow 56 (s.ways.take k).isEmpty (((s.ways.take k).map (nmW f)).map wyA)]) (fun k => s.ways.length - k) 0 (Nat.zero_le _) rfl ⟨rfl, trivial⟩ ?_ (fun _ _ => (show (7 : Nat) ≤ 7 from Nat.le_refl 7)) ?_
  · intro k _
    refine ⟨fun z hz => ?_, fun z hz => ?_⟩
    · simp only [List.mem_cons, List.not_mem_nil, or_false] at hz
      rcases hz with rfl | rfl | rfl | rfl | rfl | rfl | rfl <;> first | exact hpC_low _ | exact snCL s | exact lo3 _ _ | exact lo4 _ _ | rfl | exact lowWy _
    · simp only [List.cons_append, List.nil_append, List.mem_cons, List.not_mem_nil, or_false] at hz
      rcases hz with rfl | rfl | rfl | rfl | rfl | rfl | rfl | rfl | rfl <;> first | rfl | exact lowI _ | exact lowWy _
  intro k hk
  have hnw : k < s.ways.length → s.ways.take (k + 1) = s.ways.take k ++ [s.ways.getD k default] := fun h => take_next h
  have hwl : ((s.ways.take k).map (nmW f)).length = k := by rw [List.length_map, List.length_take]; omega
  have hwl2 : (((s.ways.take k).map (nmW f)).map wyA).length = k := by rw [List.length_map]; exact hwl
  have hwe : k = s.ways.length → s.ways.take k = s.ways := fun h => by rw [h, List.take_length]
  conv => whnf
  by_cases hkl : k < s.ways.length
  · have hwp := ok.wp _ (getD_mem (d := default) hkl)
    have hw1 := hL1.v (s.ways.getD k default).2.1.toNat (by omega)
    have hw2 := hL1.v (s.ways.getD k default).1.toNat (by omega)
    have hwA : wyA (nmW f (s.ways.getD k default)) = .agg [.int .i64 (L1.getD (s.ways.getD k default).2.1.toNat default), .int .i64 (L1.getD (s.ways.getD k default).1.toNat default), .int .i64 (s.ways.getD k default).2.2] := by
      rw [hw1, hw2]; rfl
    repeat' first | ((with_reducible apply XBr.dec) <;> (intro h; first | (exfalso; omega) | ((try simp only [List.length_map] at h); first | (exfalso; omega) | (conv => whnf)))) | ((with_reducible refine XInt.i64 (by omega) (by omega) ?_); conv => whnf) | ((with_reducible refine XHold.mk ?_ ?_); (first | omega | rfl | decide | exact ⟨rfl, by decide, rfl⟩ | exact wideI _ | exact widePr _ | exact wideSk _ | (unfold Room; constructor <;> ((try simp) <;> omega)) | exact ⟨rfl, by simp only [List.length_map], by unfold Room; constructor <;> ((try simp) <;> omega)⟩ | exact ⟨by omega, by omega, by unfold Room; constructor <;> ((try simp) <;> omega)⟩); conv => whnf) | ((first | ((with_reducible refine XIx.nat ?_ ?_ ?_); omega; (intro _; rfl)) | ((with_reducible refine XIx.map ?_ ?_ ?_ ?_); omega; omega; (intro _; rfl))); conv => whnf) | (with_reducible apply XAnd.mk) | ((first | (with_reducible apply Chk.go) | (with_reducible apply ChkA.go) | (with_reducible apply ChkF.go) | (with_reducible apply ChkB.go)); conv => whnf) | (exact XSame.mk rfl rfl) | (with_reducible exact trivial) | (((with_reducible refine XArr.ptr ?_ ?_ ?_); omega; omega); conv => whnf) | (apply Walk.drawN (id := 8) tab_ok mixed_ok [] [16, 18] (hsC [_, _, _]) [_, _, _, _, _, _, _, _, _, _, _, _, _, _, _, _, _, _, _] (lex_of (by kernel_rfl)) rfl) | ((with_reducible apply XNext.mk); conv => whnf) | fail
    refine XAgainG.go (k + 1) [.cells (wyA (s.ways.getD k default)).cells] (by omega) (by omega) ?_ ⟨rfl, rfl, rfl, rfl, rfl, rfl, rfl, rfl, rfl, trivial⟩
    rw [hnw hkl, isEmpty_app, List.map_append, List.map_append]
    show [_, _, _, _, _, _, Blk.grow _ _ (_ ++ [wyA (nmW f (s.ways.getD k default))])] ++ _ = _
    rw [hwA]; rfl
  obtain rfl : k = s.ways.length := by omega
  have hwe := hwe rfl
  repeat' first | ((with_reducible apply XBr.dec) <;> (intro h; first | (exfalso; omega) | ((try simp only [List.length_map] at h); first | (exfalso; omega) | (conv => whnf)))) | fail
  refine Walk.thenKeep ?_
  refine Walk.loopGK tab_ok [] [(2, _), (3, _), (9, _), (11, _), (12, _), (13, _), (98, _), (99, _)] ⟨rfl, rfl, rfl, rfl, rfl, rfl, rfl, rfl, trivial⟩ (fun k : Nat => k ≤ s.truths.length) (fun k => [(100, natA k)]) (fun k => [hpC u1, .cells (snC s), hpC q2, .grow 43 false (ordF s.truths.length b (lkA s g b) (.sl true []) k), .grow 37 false (ordF s.truths.length b (tdA s g b) (.agg [.sl true []]) k), .cells [.int .i64 s.places, .int .i64 ((f s.home.toNat : Nat) : Int), .int .i64 ((f s.bed.toNat : Nat) : Int), .int .i64 s.last, .gr 6 s.ways.length, .gr 3 s.truths.length, .gr 4 s.truths.length], .grow 56 s.ways.isEmpty ((s.ways.map (nmW f)).map wyA)]) (fun k => s.truths.length - k) 0 (Nat.zero_le _) (by rw [hwe]) ⟨rfl, trivial⟩ ?_ (fun _ _ => (show (7 : Nat) ≤ 7 from Nat.le_refl 7)) ?_
  · intro k _
    refine ⟨fun z hz => ?_, fun z hz => ?_⟩
    · simp only [List.mem_cons, List.not_mem_nil, or_false] at hz
      rcases hz with rfl | rfl | rfl | rfl | rfl | rfl | rfl <;> first | exact hpC_low _ | exact snCL s | exact lo3 _ _ | exact lo4 _ _ | rfl | exact lowWy _
    · simp only [List.cons_append, List.nil_append, List.mem_cons, List.not_mem_nil, or_false] at hz
      rcases hz with rfl | rfl | rfl | rfl | rfl | rfl | rfl | rfl | rfl <;> first | rfl | exact lowI _ | exact lowTr _
  clear hwe hwl hwl2 hnw hvh hvb
  intro k hk
  conv => whnf
  by_cases hkl : k < s.truths.length
  · have htl := ok.tl _ (getD_mem (d := default) hkl)
    have hkn := ok.kl _ (getD_mem (d := default) (show k < s.looks.length by omega))
    have hav := hL2.v k hkl
    have hal := ha.f_lt k hkl
    have hri := ri_end hf ha hkl
    have hrd := rd_end hf ha hkl
    have hs3 : (ordF s.truths.length b (lkA s g b) (.sl true []) k).set (a k) (lkA s g b (a k)) = ordF s.truths.length b (lkA s g b) (.sl true []) (k + 1) := ordF_set ha hkl rfl
    have hs4 : (ordF s.truths.length b (tdA s g b) (.agg [.sl true []]) k).set (a k) (tdA s g b (a k)) = ordF s.truths.length b (tdA s g b) (.agg [.sl true []]) (k + 1) := ordF_set ha hkl rfl
    have hl3 := ordF_len s.truths.length b (lkA s g b) (.sl true []) k
    have hl4 := ordF_len s.truths.length b (tdA s g b) (.agg [.sl true []]) k
    obtain ⟨E3, hE3⟩ : ∃ E, E = ordF s.truths.length b (lkA s g b) (.sl true []) k := ⟨_, rfl⟩
    obtain ⟨E4, hE4⟩ : ∃ E, E = ordF s.truths.length b (tdA s g b) (.agg [.sl true []]) k := ⟨_, rfl⟩
    rw [← hE3] at hs3 hl3
    rw [← hE4] at hs4 hl4
    rw [← hE3, ← hE4]
    repeat' first | ((with_reducible apply XBr.dec) <;> (intro h; first | (exfalso; omega) | ((try simp only [List.length_map] at h); first | (exfalso; omega) | (conv => whnf)))) | (((with_reducible refine XIx.nat ?_ ?_ ?_); omega; (intro _; rfl)); conv => whnf) | fail
    refine Walk.heapE [hpC u1, .cells (snC s), hpC q2, .grow 43 false E3, .grow 37 false E4, .cells [.int .i64 s.places, .int .i64 ((f s.home.toNat : Nat) : Int), .int .i64 ((f s.bed.toNat : Nat) : Int), .int .i64 s.last, .gr 6 s.ways.length, .gr 3 s.truths.length, .gr 4 s.truths.length], .grow 56 s.ways.isEmpty ((s.ways.map (nmW f)).map wyA), .cells (trA (s.truths.getD k default)).cells] rfl ?_
    refine Walk.place (Walk.place ?_)
    apply Walk.drawX tab_ok mixed_ok [] [2, 5] (fun fl => match fl with
      | [x, y] => [hpC u1, .cells (snC s), hpC q2, .grow 43 false E3, .grow 37 false E4, .cells [.int .i64 s.places, .int .i64 ((f s.home.toNat : Nat) : Int), .int .i64 ((f s.bed.toNat : Nat) : Int), .int .i64 s.last, .gr 6 s.ways.length, .gr 3 s.truths.length, .gr 4 s.truths.length], .grow 56 s.ways.isEmpty ((s.ways.map (nmW f)).map wyA), .cells (trA (s.truths.getD k default)).cells,
          (bif x then .grow 3 false (List.replicate s.places.toNat (.int .i64 0)) else .free), (bif y then .grow 34 false (List.replicate s.places.toNat (.sl true [])) else .free)]
      | _ => []) [_, _, .gr 8 s.places.toNat, _, _, .gr 9 s.places.toNat, _, _] (lex_of (by kernel_rfl)) rfl
    · skip
      repeat' first | ((with_reducible refine XHold.mk ?_ ?_); (first | omega | rfl | decide | exact ⟨rfl, by decide, rfl⟩ | exact wideI _ | exact widePr _ | exact wideSk _ | (unfold Room; constructor <;> ((try simp) <;> omega)) | exact ⟨rfl, by simp only [List.length_map], by unfold Room; constructor <;> ((try simp) <;> omega)⟩ | exact ⟨by omega, by omega, by unfold Room; constructor <;> ((try simp) <;> omega)⟩); conv => whnf) | (with_reducible apply XAnd.mk) | ((first | (with_reducible apply Chk.go) | (with_reducible apply ChkA.go)); conv => whnf) | (exact XSame.mk rfl rfl) | (with_reducible exact trivial) | (first | ((refine XFree.at 8 rfl ?_); (conv => whnf); exact XSame.mk rfl rfl) | ((refine XFree.at 9 rfl ?_); (conv => whnf); exact XSame.mk rfl rfl)) | fail
    · skip
      repeat' first | ((with_reducible refine XHold.mk ?_ ?_); (first | omega | rfl | decide | exact ⟨rfl, by decide, rfl⟩ | exact wideI _ | exact widePr _ | exact wideSk _ | (unfold Room; constructor <;> ((try simp) <;> omega)) | exact ⟨rfl, by simp only [List.length_map], by unfold Room; constructor <;> ((try simp) <;> omega)⟩ | exact ⟨by omega, by omega, by unfold Room; constructor <;> ((try simp) <;> omega)⟩); conv => whnf) | (with_reducible apply XAnd.mk) | ((first | (with_reducible apply Chk.go) | (with_reducible apply ChkF.go) | (with_reducible apply ChkB.go)); conv => whnf) | (exact XSame.mk rfl rfl) | (with_reducible exact trivial) | (first | ((refine XFree.at 8 rfl ?_); (conv => whnf); exact XSame.mk rfl rfl) | ((refine XFree.at 9 rfl ?_); (conv => whnf); exact XSame.mk rfl rfl)) | fail
    conv => whnf
    skip
    refine Walk.thenFreeze 18 8 s.places.toNat ?_
    refine Walk.thenFreeze 19 9 s.places.toNat ?_
    refine Walk.loopK tab_ok [] [(2, _), (3, _), (9, _), (11, _), (12, _), (13, _), (16, _), (17, _), (18, _), (19, _), (98, _), (99, _), (100, _), (112, _)] ⟨rfl, rfl, rfl, rfl, rfl, rfl, rfl, rfl, rfl, rfl, rfl, rfl, rfl, rfl, trivial⟩ (fun p : Nat => p ≤ s.places.toNat) (fun p => [(113, natA p)]) (fun p => [hpC u1, .cells (snC s), hpC q2, .grow 43 false E3, .grow 37 false E4, .cells [.int .i64 s.places, .int .i64 ((f s.home.toNat : Nat) : Int), .int .i64 ((f s.bed.toNat : Nat) : Int), .int .i64 s.last, .gr 6 s.ways.length, .gr 3 s.truths.length, .gr 4 s.truths.length], .grow 56 s.ways.isEmpty ((s.ways.map (nmW f)).map wyA), .cells (trA (s.truths.getD k default)).cells, .grow 3 false (ordF s.places.toNat g (riA s g k) (.int .i64 0) p), .grow 34 false (ordF s.places.toNat g (rdA s g k) (.sl true []) p)]) (fun p => s.places.toNat - p) 0 (Nat.zero_le _) (by rw [ordF_0, ordF_0]; rfl) ⟨rfl, trivial⟩ ?_
    intro p hp
    have hl8 := ordF_len s.places.toNat g (riA s g k) (.int .i64 0) p
    have hl9 := ordF_len s.places.toNat g (rdA s g k) (.sl true []) p
    conv => whnf
    by_cases hpl : p < s.places.toNat
    · have hpv := hL1.v p hpl
      have hfp := hf.f_lt p hpl
      have hs8 : (ordF s.places.toNat g (riA s g k) (.int .i64 0) p).set (f p) (.int .i64 ((s.looks.getD k default).2.getD p default)) = ordF s.places.toNat g (riA s g k) (.int .i64 0) (p + 1) := ordF_set hf hpl (by unfold riA; rw [hf.gf p hpl])
      have hs9 : (ordF s.places.toNat g (rdA s g k) (.sl true []) p).set (f p) (spsA (false, ((s.truths.getD k default).2.getD p default).2)) = ordF s.places.toNat g (rdA s g k) (.sl true []) (p + 1) := ordF_set hf hpl (by unfold rdA; rw [hf.gf p hpl])
      have hsl := hb.sl _ (getD_mem (d := default) hkl) _ (getD_mem (d := default) (i := p) (by omega))
      have hdu := dup_sg ((s.truths.getD k default).2.getD p default).1 ((s.truths.getD k default).2.getD p default).2 (by omega)
      generalize ordF s.places.toNat g (riA s g k) (.int .i64 0) p = E8 at hs8 hl8
      generalize ordF s.places.toNat g (rdA s g k) (.sl true []) p = E9 at hs9 hl9
      repeat' first | ((with_reducible apply XBr.dec) <;> (intro h; first | (exfalso; omega) | ((try simp only [List.length_map] at h); first | (exfalso; omega) | (conv => whnf)))) | ((first | (with_reducible refine XInt.i64 (by omega) (by omega) ?_) | ((with_reducible refine XIx.nat ?_ ?_ ?_); omega; (intro _; rfl))); conv => whnf) | (with_reducible apply XAnd.mk) | ((first | (with_reducible apply Chk.go) | (with_reducible apply ChkA.go) | (with_reducible apply ChkF.go) | (with_reducible apply ChkB.go)); conv => whnf) | (exact XSame.mk rfl rfl) | (with_reducible exact trivial) | (apply Walk.drawN (id := 17) tab_ok mixed_ok [] [25, 27] (hsC [_, _, _]) [_, _, _, _, _, _, _, _, _, _, _, _, _, _, _, _, _, _, _, _, _, _, _, _, _, _, _, _] (lex_of (by kernel_rfl)) rfl) | ((with_reducible apply XNext.mk); conv => whnf) | (rw [hpv]; conv => whnf) | ((first | (refine XCall.ret hdu ?_) | (refine XHold.mk ⟨hl8, rfl, by omega, by omega⟩ ?_) | (refine XHold.mk ⟨hl9, rfl, by omega, by omega⟩ ?_) | (refine XPut.to _ hl8.symm hfp hs8 ?_) | (refine XPut.to _ hl9.symm hfp hs9 ?_)); conv => whnf) | fail
      exact XAgain.go (p + 1) (by omega) (by omega) rfl ⟨rfl, rfl, rfl, rfl, rfl, rfl, rfl, rfl, rfl, rfl, rfl, rfl, rfl, rfl, rfl, trivial⟩
    obtain rfl : p = s.places.toNat := by omega
    have hs3' : E3.set (a k) (.sl false (ordF s.places.toNat g (riA s g k) (.int .i64 0) s.places.toNat)) = ordF s.truths.length b (lkA s g b) (.sl true []) (k + 1) := by rw [hri]; exact hs3
    have hs4' : E4.set (a k) (.sl false (ordF s.places.toNat g (rdA s g k) (.sl true []) s.places.toNat)) = ordF s.truths.length b (tdA s g b) (.agg [.sl true []]) (k + 1) := by rw [hrd]; exact hs4
    repeat' first | ((with_reducible apply XBr.dec) <;> (intro h; first | (exfalso; omega) | ((try simp only [List.length_map] at h); first | (exfalso; omega) | (conv => whnf)))) | ((first | (with_reducible refine XInt.i64 (by omega) (by omega) ?_) | ((with_reducible refine XIx.nat ?_ ?_ ?_); omega; (intro _; rfl))); conv => whnf) | (with_reducible apply XAnd.mk) | ((first | (with_reducible apply Chk.go) | (with_reducible apply ChkA.go) | (with_reducible apply ChkF.go) | (with_reducible apply ChkB.go)); conv => whnf) | (exact XSame.mk rfl rfl) | (with_reducible exact trivial) | (apply Walk.drawN (id := 19) tab_ok mixed_ok [] [15, 18] (hsC [_, _, _]) [_, _, _, _, _, _, _, _, _, _, _, _, _, _, _, _, _, _, _] (lex_of (by kernel_rfl)) rfl) | ((first | (with_reducible apply XNext.mk) | (refine XFrz.go rfl rfl hl8 ?_) | (refine XFrz.go rfl rfl hl9 ?_)); conv => whnf) | (rw [hav]; conv => whnf) | ((first | (refine XHold.mk ⟨hl3, rfl, by omega, by omega⟩ ?_) | (refine XHold.mk ⟨hl4, rfl, by omega, by omega⟩ ?_) | (refine XHold.mk ⟨ordF_len _ _ _ _ _, rfl, by omega, by omega⟩ ?_) | (refine XPut.to _ hl3.symm hal hs3' ?_) | (refine XPut.to _ hl4.symm hal hs4' ?_)); conv => whnf) | fail
    exact XAgainG.go (k + 1) [.cells (trA (s.truths.getD k default)).cells, .dead, .dead] (by omega) (by omega) rfl ⟨rfl, rfl, rfl, rfl, rfl, rfl, rfl, rfl, rfl, trivial⟩
  obtain rfl : k = s.truths.length := by omega
  repeat' first | ((with_reducible apply XBr.dec) <;> (intro h; first | (exfalso; omega) | ((try simp only [List.length_map] at h); first | (exfalso; omega) | (conv => whnf)))) | fail
  refine XKeepE.go [] _ [(2, .int .u8 w3), (3, .int .u8 w4), (9, .pim (snC s)), (11, slA L1), (12, slA L2), (13, .pim (snC (nmS s f g a b)))] rfl (fun x hx => by cases hx) ⟨⟨_, rfl, .same rfl⟩, ⟨_, rfl, .same rfl⟩, ⟨_, rfl, .all (Froz.ptr rfl (snOne s) (.low (snCL s)))⟩, ⟨_, rfl, .same (lowI _)⟩, ⟨_, rfl, .same (lowI _)⟩, ⟨_, rfl, .all ?_⟩, trivial⟩ ?_
  · refine Froz.ptr rfl (snOne (nmS s f g a b)) (.cons (.low rfl) (.cons (.low rfl) (.cons (.low rfl) (.cons (.low rfl) (.cons ?_ (.cons ?_ (.cons ?_ .nil)))))))
    · show Froz _ _ (.gr 6 s.ways.length) (.sl s.ways.isEmpty ((s.ways.map (nmW f)).map wyA))
      exact Froz.grow rfl (by rw [List.length_map, List.length_map]) (lowWy _)
    · show Froz _ _ _ (.sl false ((vecF s.truths.length (nmR s g b)).map rwA))
      rw [← lk_end ha]
      exact Froz.grow rfl (ordF_len _ _ _ _ _) (ordF_low (fun j => rwL _) rfl)
    · show Froz _ _ _ (.sl false ((vecF s.truths.length (nmD s g b)).map trA))
      rw [nm_tr]
      exact froz_truN rfl (ordF_len _ _ _ _ _) (td_end ha)
  refine blockX_thenQ ?_
  exact namedRest s hb ok s.places.toNat 7 eP.symm f g a b hf ha L1 L2 hL1 hL2 w3 w4 hw3 hw4
end GA
end
