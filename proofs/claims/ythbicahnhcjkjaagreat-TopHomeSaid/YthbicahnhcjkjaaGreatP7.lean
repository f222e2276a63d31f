/- Part 7 of a proof: W4, W5, W6, W7, W8, W9, Abs50, Abs51, H16, H18, H17. -/
import Derived.Test.YthbicahnhcjkjaaGreatP6
section
namespace GA
open Go Go.RowKit Go.Proofs
set_option pp.deepTerms true
set_option maxRecDepth 8000
set_option linter.unusedVariables false
set_option linter.unusedSimpArgs false

abbrev GwS := (Nat → Int) × List ((Int × Int) × AV)
def gwI (a : Nat) (j : Nat) : Int := if j = a then 0 else farZ
def gwX (a : Int) (was : Nat → Int) (x : Bn) (i : Nat) (S : GwS) : GwS := if was x.1.toNat ≠ farZ ∧ was x.1.toNat + x.2.2 < S.1 x.2.1.toNat then (updV S.1 x.2.1.toNat (was x.1.toNat + x.2.2), mput2 (a, x.2.1) (natA i) S.2) else S
def gwL (a : Int) (B : List Bn) (was : Nat → Int) (S0 : GwS) : Nat → GwS
  | 0 => S0
  | i + 1 => gwX a was (B.getD i default) i (gwL a B was S0 i)
def gwK (a : Nat) (B : List Bn) : Nat → GwS
  | 0 => (gwI a, [])
  | n + 1 => gwL a B (gwK a B n).1 (gwK a B n) B.length
def GwB (n : Nat) (F : Nat → Int) : Prop := ∀ j, j < 8 → F j = farZ ∨ (-1000 * (n : Int) ≤ F j ∧ F j ≤ 1000 * (n : Int))
theorem gwX_b {a : Int} {was : Nat → Int} {x : Bn} {i n : Nat} {S : GwS} (h1 : GwB n was) (h2 : GwB (n + 1) S.1) (hf : 0 ≤ x.1 ∧ x.1 ≤ 4) (hm : -1000 ≤ x.2.2 ∧ x.2.2 ≤ 1000) : GwB (n + 1) (gwX a was x i S).1 := by
  unfold gwX
  split
  · rename_i hc
    intro j hj
    show updV S.1 x.2.1.toNat (was x.1.toNat + x.2.2) j = farZ ∨ _ ≤ updV S.1 x.2.1.toNat (was x.1.toNat + x.2.2) j ∧ updV S.1 x.2.1.toNat (was x.1.toNat + x.2.2) j ≤ _
    unfold updV
    split
    · rcases h1 x.1.toNat (by omega) with h | h
      · exact absurd h hc.1
      · right; omega
    · exact h2 j hj
  · exact h2
theorem gwL_b {a : Int} {B : List Bn} (ok : BnOk B) {was : Nat → Int} {n : Nat} {S : GwS} (h1 : GwB n was) (h2 : GwB (n + 1) S.1) : ∀ i, i ≤ B.length → GwB (n + 1) (gwL a B was S i).1
  | 0, _ => h2
  | i + 1, hi => by
    have hm := getD_mem (xs := B) (i := i) (d := default) (by omega)
    exact gwX_b h1 (gwL_b ok h1 h2 i (by omega)) (ok.fr _ hm) (ok.mo _ hm)
theorem GwB.up {n : Nat} {F : Nat → Int} (h : GwB n F) : GwB (n + 1) F := fun j hj => by
  rcases h j hj with h | h
  · exact .inl h
  · right; omega
theorem gwK_b {a : Nat} {B : List Bn} (ok : BnOk B) : ∀ n, GwB n (gwK a B n).1
  | 0 => by
    intro j _
    show gwI a j = farZ ∨ _ ≤ gwI a j ∧ gwI a j ≤ _
    unfold gwI
    split
    · right; omega
    · exact .inl rfl
  | n + 1 => gwL_b ok (gwK_b ok n) (gwK_b ok n).up _ (Nat.le_refl _)
theorem mput2_low {n : Nat} {q : Int × Int} {v : AV} (hv : v.low n = true) : ∀ {es : List ((Int × Int) × AV)}, lowL n (es.map (·.2)) = true → lowL n ((mput2 q v es).map (·.2)) = true
  | [], _ => by unfold mput2; simp only [List.map_cons, List.map_nil, lowL, hv]; rfl
  | (m, u) :: l, h => by
    have h' : (u.low n && lowL n (l.map (·.2))) = true := h
    rw [Bool.and_eq_true] at h'
    unfold mput2
    split
    · show (v.low n && lowL n (l.map (·.2))) = true
      rw [hv, h'.2]; rfl
    · show (u.low n && lowL n ((mput2 q v l).map (·.2))) = true
      rw [h'.1, mput2_low hv h'.2]; rfl
theorem gwL_low {n : Nat} {a : Int} {B : List Bn} {was : Nat → Int} {S : GwS} (h : lowL n (S.2.map (·.2)) = true) : ∀ i, lowL n ((gwL a B was S i).2.map (·.2)) = true
  | 0 => h
  | i + 1 => by
    show lowL n ((gwX a was (B.getD i default) i (gwL a B was S i)).2.map (·.2)) = true
    unfold gwX
    split
    · exact mput2_low rfl (gwL_low h i)
    · exact gwL_low h i
theorem gwK_low {m : Nat} {a : Nat} {B : List Bn} : ∀ n, lowL m ((gwK a B n).2.map (·.2)) = true
  | 0 => rfl
  | n + 1 => gwL_low (gwK_low n) _
def gwP (B : List Bn) (b : Int) (L : List Nat) : Nat → Int
  | 0 => b
  | k + 1 => (B.getD (L.getD k 0) default).1
structure Pth (M : List ((Int × Int) × AV)) (B : List Bn) (a b : Int) (L : List Nat) : Prop where
  st : ∀ k, k < L.length → gwP B b L k ≠ a ∧ mget2 (a, gwP B b L k) M = some (natA (L.getD k 0)) ∧ L.getD k 0 < B.length
  en : gwP B b L L.length = a
theorem gw0 : (vecF 8 fun j => if j < 0 then farZ else 0).map (AV.int .i64) = List.replicate 8 (.int .i64 0) := by
  rw [vecF_eq]; rfl
theorem XInt.to {q : IntKind} {n v : Int} {k : AV → Prop} (h : n = v) (x : XInt q v k) : XInt q n k := h ▸ x
theorem lowNt {n : Nat} (L : List Nat) : lowL n (L.map natA) = true := lowL_map (fun _ => rfl) L
theorem rev1_l (x : Nat) : ACall Tryz.prog 94 [.gr 0 1] [.grow 3 false [natA x]] fun r' H' => r' = .tup [] ∧ H' = [.grow 3 false [natA x]] := by
  have e1 : (([natA x] : List AV).length : Int) = 1 := rfl
  refine ACall.bodyN (T := tab) (res := []) tab_ok [] Tryz.func94 rfl (by kernel_rfl) Tryz.ntmps94 rfl (by simp only [List.length_cons, List.length_nil]; decide) ⟨rfl, rfl⟩ ?_; conv => whnf
  repeat' first | ((with_reducible refine XInt.a ?_); conv => whnf) | (refine XHold.a ?_; conv => whnf) | fail
  refine Walk.loopK tab_ok [] [(0, _)] ⟨rfl, trivial⟩ (fun k : Nat => k ≤ 0) (fun k => [(2, natA k), (3, .int .i64 0)]) (fun k => [.grow 3 false [natA x]]) (fun k => 0 - k) 0 (Nat.zero_le _) rfl ⟨rfl, rfl, trivial⟩ ?_
  intro k hk
  obtain rfl : k = 0 := by omega
  conv => whnf
  repeat' ((with_reducible first | refine XBr.y fun h => ?_ | refine XBr.n fun h => ?_ | refine XBr.dec (fun h => ?_) fun h => ?_) <;> conv => whnf)
  exact ⟨rfl, rfl, fun y hy => by rw [List.mem_singleton] at hy; subst hy; rfl, FrozN.low rfl⟩
theorem rev3_l (x y z : Nat) : ACall Tryz.prog 94 [.gr 0 3] [.grow 3 false [natA x, natA y, natA z]] fun r' H' => r' = .tup [] ∧ H' = [.grow 3 false [natA z, natA y, natA x]] := by
  have e3 : (([natA x, natA y, natA z] : List AV).length : Int) = 3 := rfl
  refine ACall.bodyN (T := tab) (res := []) tab_ok [] Tryz.func94 rfl (by kernel_rfl) Tryz.ntmps94 rfl (by simp only [List.length_cons, List.length_nil]; decide) ⟨rfl, rfl⟩ ?_; conv => whnf
  repeat' first | ((with_reducible refine XInt.a ?_); conv => whnf) | (refine XHold.a ?_; conv => whnf) | fail
  refine Walk.loopK tab_ok [] [(0, _)] ⟨rfl, trivial⟩ (fun k : Nat => k ≤ 1) (fun k => [(2, natA k), (3, .int .i64 (match k with | 0 => 2 | _ => 1))]) (fun k => match k with | 0 => [.grow 3 false [natA x, natA y, natA z]] | _ => [.grow 3 false [natA z, natA y, natA x]]) (fun k => 1 - k) 0 (Nat.zero_le _) rfl ⟨rfl, rfl, trivial⟩ ?_
  intro k hk
  have hc : k = 0 ∨ k = 1 := by omega
  rcases hc with rfl | rfl
  · conv => whnf
    repeat' first | ((with_reducible first | refine XBr.y fun h => ?_ | refine XBr.n fun h => ?_ | refine XBr.dec (fun h => ?_) fun h => ?_ | refine XInt.a ?_ | apply Chk.go | apply ChkA.go | apply ChkF.go | apply ChkB.go | apply XNext.mk) <;> conv => whnf) | (with_reducible first | apply XAnd.mk | exact trivial) | (exact XSame.mk rfl rfl) | (apply Walk.drawN (id := 3) tab_ok mixed_ok [] [13, 15] (hsC [_, _, _]) [_, _, _, _, _, _, _, _, _, _, _, _, _, _, _, _] (by kernel_rfl) rfl) | ((first | refine XHold.mk ⟨rfl, rfl, by decide, by decide⟩ ?_ | (first | refine XGet.to (natA z) rfl (by decide) rfl ?_ | refine XGet.to (natA x) rfl (by decide) rfl ?_) | (first | refine XPut.to [natA z, natA y, natA z] rfl (by decide) rfl ?_ | refine XPut.to [natA z, natA y, natA x] rfl (by decide) rfl ?_)); conv => whnf) | (refine XInt.to (v := 1) rfl ?_) | fail
    exact XAgain.go 1 (by omega) (by omega) rfl ⟨rfl, rfl, rfl, trivial⟩
  · conv => whnf
    repeat' ((with_reducible first | refine XBr.y fun h => ?_ | refine XBr.n fun h => ?_ | refine XBr.dec (fun h => ?_) fun h => ?_) <;> conv => whnf)
    exact ⟨rfl, rfl, fun y hy => by rw [List.mem_singleton] at hy; subst hy; rfl, FrozN.low rfl⟩
theorem rev_l (L : List Nat) (hL : L.length = 1 ∨ L.length = 3) : ACall Tryz.prog 94 [.gr 0 L.length] [.grow 3 false (L.map natA)] fun r' H' => r' = .tup [] ∧ H' = [.grow 3 false (L.reverse.map natA)] := by
  match L, hL with
  | [x], _ => exact rev1_l x
  | [x, y, z], _ => exact rev3_l x y z
  | [], h => simp at h
  | [_, _], h => simp at h
  | _ :: _ :: _ :: _ :: _, h => simp at h
theorem renNt (f : Nat → Nat) (t : TypeId) (nl : Bool) (xs : List Nat) : Blk.ren f (.grow t nl (xs.map natA)) = .grow t nl (xs.map natA) := Blk.ren_low (n := 0) (fun i hi => by omega) (lowNt xs)
theorem XCall.rev {L : List Nat} (hL : L.length = 1 ∨ L.length = 3) {H : List Blk} {k : AV → List Blk → Prop} {j : Nat} (h0 : lget H j = some (.grow 3 false (L.map natA))) (hk : k (.tup []) (H.set j (.grow 3 false (L.reverse.map natA)))) : XCall Tryz.prog 94 [.gr j L.length] H k := by
  constructor
  have e := ACall.frame (ρ := fun i => j + i) (H := H) (k := k) (rev_l L hL) (fun a b _ _ h => by have : j + a = j + b := h; omega) ?_ (fun y hy => by simp at hy; subst hy; exact (lowNt L : lowL _ _ = true)) ?_ ?_
  · exact e
  · intro i x1 hi
    rw [lget_eq] at h0
    rcases i with _ | i
    · simp only [List.getElem?_cons_zero, Option.some.injEq] at hi; subst hi
      rw [renNt]; exact h0
    · simp at hi
  · rfl
  · rintro r1 H1' ⟨rfl, rfl⟩
    rw [lget_eq] at h0
    have hj := (List.getElem?_eq_some_iff.1 h0).1
    refine ⟨rfl, H.set j (.grow 3 false (L.reverse.map natA)), by simp, fun i x1 hi => ?_, fun q hq => ?_, ?_⟩
    · rcases i with _ | i
      · simp only [List.getElem?_cons_zero, Option.some.injEq] at hi; subst hi
        rw [renNt]; simp [hj]
      · simp at hi
    · exact List.getElem?_set_ne (by have := hq 0 (by simp); simpa using this)
    · exact hk
set_option maxHeartbeats 4000000 in
theorem wnRow_c (e : Int) (B : List Bn) (ok : WnOk e B) (F : Nat → Int) (a b : Nat) (ha : a < 8) (r : Nat) (hr : (r : Int) < e) (hst : vecF 8 (gwK a B (r + 1)).1 = vecF 8 (gwK a B r).1) (hne : ∀ n, n < r → vecF 8 (gwK a B (n + 1)).1 ≠ vecF 8 (gwK a B n).1)
    (L : List Nat) (hp : Pth (gwK a B (r + 1)).2 B a b L) (hL : L.length = 1 ∨ L.length = 3) : Comp Tryz.prog 59 [.pim (wdC e B F), natA a, natA b] (.sl false (L.reverse.map natA)) := by
  have l1 := ok.ok.len
  have e1 : ((B.map wyA).length : Int) = B.length := by rw [List.length_map]
  have hall := wnAll_c e B (by omega)
  have h2 := ok.e2
  refine Comp.body' (T := tab) (res := [.tmp 6]) tab_ok [22] Tryz.func59 rfl (by kernel_rfl) Tryz.ntmps59 rfl (by simp only [List.length_cons, List.length_nil]; decide) (by simp only [lowL, AV.low, wdCL]; rfl) ?_; conv => whnf
  repeat' ((refine XCall.ret hall ?_); conv => whnf)
  refine Walk.loopK tab_ok [] [(0, _), (2, _), (4, _), (6, _), (7, _), (8, _), (9, _)] ⟨rfl, rfl, rfl, rfl, rfl, rfl, rfl, trivial⟩ (fun k : Nat => k ≤ 8) (fun k => [(23, natA k)]) (fun k => [.pm [], .cells [.mp 0], .cells ((vecF 8 fun j => if j < k then farZ else 0).map (.int .i64))]) (fun k => 8 - k) 0 (Nat.zero_le _) (by rw [gw0]; rfl) ⟨rfl, trivial⟩ ?_
  intro k hk
  conv => whnf
  by_cases hlt : k < 8
  · skip
    repeat' first | ((with_reducible first | refine XBr.y fun h => ?_ | refine XBr.n fun h => ?_ | refine XBr.dec (fun h => ?_) fun h => ?_ | refine XInt.a ?_) <;> conv => whnf) | ((first | ((with_reducible refine XArr.ptr ?_ ?_ ?_); omega; omega) | (refine xspl_vec (f := AV.int .i64) 1099511627776 k (by omega) (by omega) ?_)); conv => whnf) | fail
    refine XAgain.go (k + 1) (by omega) (by omega) ?_ ⟨rfl, rfl, rfl, rfl, rfl, rfl, rfl, rfl, trivial⟩
    refine congrArg (fun F => [Blk.pm [], .cells [.mp 0], .cells ((vecF 8 F).map (AV.int .i64))]) (funext fun j => ?_)
    unfold updV
    dsimp only
    by_cases e : j = k
    · rw [if_pos e, if_pos (by omega)]; rfl
    · rw [if_neg e]
      by_cases h2 : j < k
      · rw [if_pos h2, if_pos (by omega)]
      · rw [if_neg h2, if_neg (by omega)]
  obtain rfl : k = 8 := by omega
  repeat' first | ((with_reducible first | refine XBr.y fun h => ?_ | refine XBr.n fun h => ?_ | refine XBr.dec (fun h => ?_) fun h => ?_) <;> conv => whnf) | ((first | ((with_reducible refine XArr.ptr ?_ ?_ ?_); omega; omega) | (refine xspl_vec (f := AV.int .i64) 0 a (by omega) (by omega) ?_)); conv => whnf) | fail
  have hv0 : vecF 8 (updV (fun j => if j < 8 then farZ else 0) a 0) = vecF 8 (gwK a B 0).1 := vecF_congr fun j hj => by
    show _ = gwI a j
    unfold updV gwI
    by_cases h : j = a
    · rw [if_pos h, if_pos h]
    · rw [if_neg h, if_neg h]; exact if_pos hj
  rw [hv0]
  have hlH : ∀ n : Nat, n ≤ r → ∀ z ∈ [Blk.pm (gwK a B n).2, .cells [.mp 0], .cells ((vecF 8 (gwK a B n).1).map (.int .i64))], z.low 3 = true := fun n hn z hz => by
    simp only [List.mem_cons, List.not_mem_nil, or_false] at hz
    rcases hz with rfl | rfl | rfl
    · exact gwK_low n
    · rfl
    · exact vec_low fun _ => rfl
  have hlL : ∀ n : Nat, ∀ z ∈ ([(0, .pim (wdC e B F)), (2, natA b), (4, .pim [natA a]), (6, .sl true []), (7, .ptr 1 0), (8, .sl false (B.map wyA)), (9, .ptr 2 0), (35, .int .i64 e), (36, natA n)] : List (Nat × AV)), z.2.low 3 = true := fun n z hz => by
    simp only [List.mem_cons, List.not_mem_nil, or_false] at hz
    rcases hz with rfl | rfl | rfl | rfl | rfl | rfl | rfl | rfl | rfl <;> first | rfl | exact wdCL _ _ _ | exact lowWy _
  refine Walk.loopM tab_ok [] (fun n : Nat => n ≤ r) (fun n => [(0, .pim (wdC e B F)), (2, natA b), (4, .pim [natA a]), (6, .sl true []), (7, .ptr 1 0), (8, .sl false (B.map wyA)), (9, .ptr 2 0), (35, .int .i64 e), (36, natA n)]) (fun n => [.pm (gwK a B n).2, .cells [.mp 0], .cells ((vecF 8 (gwK a B n).1).map (.int .i64))]) (fun n => r - n) 0 3 (Nat.zero_le _) rfl rfl ⟨rfl, rfl, rfl, rfl, rfl, rfl, rfl, rfl, rfl, trivial⟩ ?_
  intro n hn
  have hwb := gwK_b (a := a) ok.ok n
  have hbe := wnBelieved_c e B
  have hev := wnEveryone_c
  conv => whnf
  repeat' first | ((with_reducible first | refine XBr.y fun h => ?_ | refine XBr.n fun h => ?_ | refine XBr.dec (fun h => ?_) fun h => ?_ | apply Chk.go | apply ChkA.go | apply ChkF.go | apply ChkB.go | apply XNext.mk) <;> conv => whnf) | (with_reducible first | apply XAnd.mk | exact trivial) | (exact XSame.mk rfl rfl) | (apply Walk.drawN (id := 13) tab_ok mixed_ok [22] [] (hsU _) [_, _, _, _, _, _] (by kernel_rfl) rfl) | ((first | refine xtk_vec rfl ?_ | refine xn_vec rfl ?_ | (refine xspl_full (by rw [List.length_map, vecF_len]; rfl) ?_) | refine XCall.ret hbe ?_ | refine XCall.ret hev ?_); conv => whnf) | fail
  have hlow2 : ∀ i m, lowL m ((gwL a B (gwK a B n).1 (gwK a B n) i).2.map (·.2)) = true := fun i m => gwL_low (gwK_low n) i
  refine Walk.range (own := []) tab_ok [(4, .pim [natA a]), (7, .ptr 1 0), (9, .ptr 2 0), (11, .ptr 3 0)] rfl ⟨rfl, rfl, rfl, rfl, trivial⟩ ?_
  intro fn
  refine XCall.inl (T := tab) (res := []) tab_ok [] Tryz.func121 rfl (by kernel_rfl) Tryz.ntmps121 rfl (by simp only [List.length_append, List.length_cons, List.length_nil]; decide) ?_; conv => whnf
  skip
  refine Walk.loopGKL tab_ok [] _ [(0, _), (1, _), (2, _), (12, _), (13, _)] ⟨rfl, rfl, rfl, rfl, rfl, trivial⟩ (fun i : Nat => i ≤ B.length) (fun i => [(14, natA i)]) (fun lp i => [.pm (gwL a B (gwK a B n).1 (gwK a B n) i).2, .cells [.mp 0], .cells ((vecF 8 (gwL a B (gwK a B n).1 (gwK a B n) i).1).map (.int .i64)), .cells ((vecF 8 (gwK a B n).1).map (.int .i64)), .raw (.deferred (some [])), lp]) (fun i => B.length - i) 0 (Nat.zero_le _) rfl ⟨rfl, trivial⟩ ?_ (fun _ _ => (show (6 : Nat) ≤ 6 from Nat.le_refl 6)) ?_
  · intro i _
    refine ⟨fun z hz => ?_, fun z hz => ?_⟩
    · simp only [List.mem_cons, List.not_mem_nil, or_false] at hz
      rcases hz with rfl | rfl | rfl | rfl | rfl | rfl
      · exact hlow2 i _
      · rfl
      · exact vec_low fun _ => rfl
      · exact vec_low fun _ => rfl
      · rfl
      · rfl
    · simp only [List.cons_append, List.nil_append, List.mem_cons, List.not_mem_nil, or_false] at hz
      rcases hz with rfl | rfl | rfl | rfl | rfl | rfl <;> first | rfl | exact wnCL _ _ | exact lowWy _
  intro i hi
  have hgi := gwL_b ok.ok hwb hwb.up (a := a) i hi
  have hnx : gwL a B (gwK a B n).1 (gwK a B n) (i + 1) = gwX a (gwK a B n).1 (B.getD i default) i (gwL a B (gwK a B n).1 (gwK a B n) i) := rfl
  conv => whnf
  by_cases hlt2 : i < B.length
  · have hmx := getD_mem (xs := B) (i := i) (d := default) hlt2
    have hmo := ok.ok.mo _ hmx
    have hfr := ok.ok.fr _ hmx
    have hto := ok.ok.to _ hmx
    have hlt' := hlt2
    generalize gwL a B (gwK a B n).1 (gwK a B n) i = S at *
    generalize (gwK a B n).1 = W at *
    repeat' first | ((with_reducible first | refine XBr.y fun h => ?_ | refine XBr.n fun h => ?_ | refine XBr.dec (fun h => ?_) fun h => ?_) <;> conv => whnf) | (refine XIx.a ?_; conv => whnf) | (((refine XYield.go (own := []) tab_ok rfl rfl (by decide) ?_); intro ρ); conv => whnf) | fail
    generalize B.getD i default = x at *
    have q1 := hwb x.1.toNat (by omega)
    have q2 := hgi x.2.1.toNat (by omega)
    unfold farZ at q1 q2
    unfold gwX at hnx
    by_cases c1 : W x.1.toNat ≠ 1099511627776
    · have hd1 : decide (W x.1.toNat ≠ 1099511627776) = true := decide_eq_true c1
      have hd2 : (W x.1.toNat != 1099511627776) = true := by simpa using c1
      by_cases c2 : W x.1.toNat + x.2.2 < S.1 x.2.1.toNat
      · rw [if_pos ⟨c1, c2⟩] at hnx
        have hd3 : decide (W x.1.toNat + x.2.2 < S.1 x.2.1.toNat) = true := decide_eq_true c2
        have hd4 := hd3
        apply Walk.drawX tab_ok mixed_ok [] [] (hsU _) [_, _, _, _, .bool true, .bool true, _, _, _, _, _, _, _, _, _, _, _, .bool true, .bool true] (by kernel_rfl) rfl
        · skip
          repeat' first | ((with_reducible first | apply XBr.tt | refine XInt.a ?_ | apply Chk.go | apply ChkA.go); conv => whnf) | (with_reducible first | apply XAnd.mk | exact trivial) | (exact XSame.mk rfl rfl) | (((with_reducible refine XArr.ptr ?_ ?_ ?_); omega; omega); conv => whnf) | ((refine XSame.mk (congrArg AV.bool hd2) rfl)) | ((refine XSame.mk (congrArg AV.bool hd3) rfl)) | ((first | refine xdrop_vec (f := AV.int .i64) x.1.toNat (by omega) (by omega) ?_ | refine xdrop_vec (f := AV.int .i64) x.2.1.toNat (by omega) (by omega) ?_); conv => whnf) | fail
        · skip
          repeat' first | ((with_reducible first | apply ChkF.go | apply ChkB.go); conv => whnf) | (with_reducible first | apply XAnd.mk | exact trivial) | fail
        conv => whnf
        repeat' first | ((with_reducible first | apply XBr.tt | refine XInt.a ?_ | apply Chk.go | apply ChkA.go | apply ChkF.go | apply ChkB.go | apply XNext.mk); conv => whnf) | (with_reducible first | apply XBr.not | apply XAnd.mk | exact trivial) | (exact XSame.mk rfl rfl) | ((first | ((with_reducible refine XArr.ptr ?_ ?_ ?_); omega; omega) | (first | refine xdrop_vec (f := AV.int .i64) x.1.toNat (by omega) (by omega) ?_ | refine xdrop_vec (f := AV.int .i64) x.2.1.toNat (by omega) (by omega) ?_)); conv => whnf) | (apply Walk.drawN (id := 17) tab_ok mixed_ok [] [10] (hsC [_, _]) [_, _, _, _, _, _, _, _, _, _, _] (by kernel_rfl) rfl) | ((refine xspl_vec (f := AV.int .i64) (W x.1.toNat + x.2.2) x.2.1.toNat (by omega) (by omega) ?_); conv => whnf) | fail
        exact XAgainG.go (i + 1) [_, _] (by omega) (by omega) (by rw [hnx]; rfl) ⟨rfl, rfl, rfl, rfl, rfl, rfl, trivial⟩
      · rw [if_neg (fun h => c2 h.2)] at hnx
        have hd3 : decide (W x.1.toNat + x.2.2 < S.1 x.2.1.toNat) = false := decide_eq_false c2
        have hd4 := hd3
        apply Walk.drawX tab_ok mixed_ok [] [] (hsU _) [_, _, _, _, .bool true, .bool true, _, _, _, _, _, _, _, _, _, _, _, .bool false, .bool false] (by kernel_rfl) rfl
        · skip
          repeat' first | ((with_reducible first | apply XBr.tt | refine XInt.a ?_ | apply Chk.go | apply ChkA.go); conv => whnf) | (with_reducible first | apply XAnd.mk | exact trivial) | (exact XSame.mk rfl rfl) | (((with_reducible refine XArr.ptr ?_ ?_ ?_); omega; omega); conv => whnf) | ((refine XSame.mk (congrArg AV.bool hd2) rfl)) | ((refine XSame.mk (congrArg AV.bool hd3) rfl)) | ((first | refine xdrop_vec (f := AV.int .i64) x.1.toNat (by omega) (by omega) ?_ | refine xdrop_vec (f := AV.int .i64) x.2.1.toNat (by omega) (by omega) ?_); conv => whnf) | fail
        · skip
          repeat' first | ((with_reducible first | apply ChkF.go | apply ChkB.go); conv => whnf) | (with_reducible first | apply XAnd.mk | exact trivial) | fail
        conv => whnf
        repeat' first | ((with_reducible first | apply XBr.tt | apply XBr.ff | refine XInt.a ?_); conv => whnf) | with_reducible apply XBr.not | fail
        exact XAgainG.go (i + 1) [_, _] (by omega) (by omega) (by rw [hnx]; rfl) ⟨rfl, rfl, rfl, rfl, rfl, rfl, trivial⟩
    · rw [if_neg (fun h => c1 h.1)] at hnx
      have hd1 : decide (W x.1.toNat ≠ 1099511627776) = false := decide_eq_false c1
      have hd2 : (W x.1.toNat != 1099511627776) = false := by simpa using c1
      have hd3 := hd1
      have hd4 := hd1
      apply Walk.drawX tab_ok mixed_ok [] [] (hsU _) [_, _, _, _, .bool false, .bool false, _, _, _, _, _, _, _, _, _, _, _, _, .bool false] (by kernel_rfl) rfl
      · skip
        repeat' first | ((with_reducible first | apply XBr.ff | apply Chk.go | apply ChkA.go); conv => whnf) | (with_reducible first | apply XAnd.mk | exact trivial) | (exact XSame.mk rfl rfl) | (((with_reducible refine XArr.ptr ?_ ?_ ?_); omega; omega); conv => whnf) | ((refine XSame.mk (congrArg AV.bool hd2) rfl)) | ((first | refine xdrop_vec (f := AV.int .i64) x.1.toNat (by omega) (by omega) ?_ | refine xdrop_vec (f := AV.int .i64) x.2.1.toNat (by omega) (by omega) ?_); conv => whnf) | fail
      · skip
        repeat' first | ((with_reducible first | apply ChkF.go | apply ChkB.go); conv => whnf) | (with_reducible first | apply XAnd.mk | exact trivial) | fail
      conv => whnf
      repeat' first | ((with_reducible first | apply XBr.tt | apply XBr.ff | refine XInt.a ?_); conv => whnf) | with_reducible apply XBr.not | fail
      exact XAgainG.go (i + 1) [_, _] (by omega) (by omega) (by rw [hnx]; rfl) ⟨rfl, rfl, rfl, rfl, rfl, rfl, trivial⟩
  obtain rfl : i = B.length := by omega
  have e0 : (([] : List AV).length : Int) = 0 := rfl
  have hl8 : ∀ F : Nat → Int, (vecF 8 F).length = 8 := fun F => vecF_len 8 F
  repeat' ((with_reducible first | refine XBr.y fun h => ?_ | refine XBr.n fun h => ?_ | refine XBr.dec (fun h => ?_) fun h => ?_) <;> conv => whnf)
  refine Walk.loopGKL tab_ok [] _ [(0, _), (2, _), (29, _), (30, _)] ⟨rfl, rfl, rfl, rfl, trivial⟩ (fun i : Nat => i ≤ 0) (fun i => [(31, natA i)]) (fun lp i => [.pm (gwK a B (n + 1)).2, .cells [.mp 0], .cells ((vecF 8 (gwK a B (n + 1)).1).map (.int .i64)), .cells ((vecF 8 (gwK a B n).1).map (.int .i64)), .raw (.deferred (some [])), lp]) (fun i => 0 - i) 0 (Nat.zero_le _) rfl ⟨rfl, trivial⟩ ?_ (fun _ _ => (show (6 : Nat) ≤ 6 from Nat.le_refl 6)) ?_
  · intro i _
    refine ⟨fun z hz => ?_, fun z hz => ?_⟩
    · simp only [List.mem_cons, List.not_mem_nil, or_false] at hz
      rcases hz with rfl | rfl | rfl | rfl | rfl | rfl
      · exact gwK_low _
      · rfl
      · exact vec_low fun _ => rfl
      · exact vec_low fun _ => rfl
      · rfl
      · rfl
    · simp only [List.cons_append, List.nil_append, List.mem_cons, List.not_mem_nil, or_false] at hz
      rcases hz with rfl | rfl | rfl | rfl | rfl <;> rfl
  intro i2 hi2
  obtain rfl : i2 = 0 := by omega
  conv => whnf
  by_cases hs : n = r
  · subst hs
    have hb : (vecF 8 (gwK a B n).1 == vecF 8 (gwK a B (n + 1)).1) = true := by rw [hst]; exact beq_self_eq_true _
    repeat' first | ((with_reducible first | apply XBr.tt | refine XBr.y fun h => ?_ | refine XBr.n fun h => ?_ | refine XBr.dec (fun h => ?_) fun h => ?_) <;> conv => whnf) | ((first | (refine xtk_vec rfl ?_) | ((refine XEqA.mk ⟨_, _, rfl, rfl, by rw [hl8, hl8], (hl8 _).symm, ?_⟩); rw [hb])); conv => whnf) | fail
    refine Walk.nilgr 14 3 rfl ?_
    refine Walk.loopK tab_ok [] [(4, _), (6, _), (7, _), (8, _)] ⟨rfl, rfl, rfl, rfl, trivial⟩ (fun k : Nat => k ≤ L.length) (fun k => [(14, .gr 6 k), (15, .int .i64 (gwP B b L k))]) (fun k => [.pm (gwK a B (n + 1)).2, .cells [.mp 0], .cells ((vecF 8 (gwK a B (n + 1)).1).map (.int .i64)), .cells ((vecF 8 (gwK a B n).1).map (.int .i64)), .raw (.deferred (some [])), .dead, .grow 3 (L.take k).isEmpty ((L.take k).map natA)]) (fun k => L.length - k) 0 (Nat.zero_le _) rfl ⟨rfl, rfl, trivial⟩ ?_
    intro k hk
    have hnk := fun h => take_next (xs := L) (i := k) h
    have hkl : (L.take k).length = k := by rw [List.length_take]; omega
    have hml : ((L.take k).map natA).length = k := by rw [List.length_map]; exact hkl
    conv => whnf
    by_cases hltk : k < L.length
    · obtain ⟨s1, s2, s3⟩ := hp.st k hltk
      have hXh : ∀ y : AV, ((L.take k).map natA ++ [y]).length = k + [y].length := fun y => by rw [List.length_append, hml]
      have hgk : ((L.take k).map natA ++ [natA (L.getD k 0)]).getD (k : Int).toNat default = natA (L.getD k 0) := by
        rw [Int.toNat_natCast, List.getD_eq_getElem?_getD, List.getElem?_append_right (by omega), hml, Nat.sub_self]; rfl
      have hnp : gwP B b L (k + 1) = (B.getD (L.getD k 0) default).1 := rfl
      repeat' first | ((with_reducible first | refine XBr.y2 fun h => ?_ | refine XBr.n2 fun h => ?_ | refine XBr.bne (fun h => ?_) fun h => ?_ | refine XInt.a ?_) <;> conv => whnf) | ((first | refine XHold.a ?_ | refine XIx.a ?_ | refine XGetP.mk' s2 ?_ | refine XHold.mk (hXh _) ?_); conv => whnf) | (refine XInt.to (v := (k : Int)) (show ((k + 1 : Nat) : Int) - 1 = (k : Int) by omega) ?_) | ((first | refine XHold.mk ⟨hXh _, rfl, (show (0 : Int) ≤ (k : Int) by omega), (show (k : Int) < ((k + 1 : Nat) : Int) by omega)⟩ ?_ | refine XGet.to (natA (L.getD k 0)) (hXh (natA (L.getD k 0))).symm (show (k : Int).toNat < k + 1 by omega) hgk ?_); conv => whnf) | fail
      refine XAgain.go (k + 1) (by omega) (by omega) ?_ ⟨rfl, rfl, rfl, rfl, rfl, rfl, trivial⟩
      dsimp only
      rw [hnk hltk, isEmpty_app, List.map_append]; rfl
    obtain rfl : k = L.length := by omega
    have hle : L.isEmpty = false := by cases L <;> simp at hL ⊢
    have hlr : (L.reverse.map natA).length = L.length := by rw [List.length_map, List.length_reverse]
    rw [List.take_length, hp.en, hle]
    repeat' first | ((with_reducible first | refine XBr.y2 fun h => ?_ | refine XBr.n2 fun h => ?_ | refine XBr.bne (fun h => ?_) fun h => ?_) <;> conv => whnf) | ((refine XCall.rev hL rfl ?_); conv => whnf) | fail
    exact ⟨Froz.grow rfl hlr (lowNt _)⟩
  · have hb : (vecF 8 (gwK a B n).1 == vecF 8 (gwK a B (n + 1)).1) = false := by rw [beq_eq_false_iff_ne]; exact fun h => hne n (by omega) h.symm
    repeat' first | ((with_reducible first | apply XBr.ff | refine XBr.y fun h => ?_ | refine XBr.n fun h => ?_ | refine XBr.dec (fun h => ?_) fun h => ?_ | refine XInt.a ?_) <;> conv => whnf) | ((first | (refine xtk_vec rfl ?_) | ((refine XEqA.mk ⟨_, _, rfl, rfl, by rw [hl8, hl8], (hl8 _).symm, ?_⟩); rw [hb])); conv => whnf) | fail
    exact XAgainM.go (n + 1) [.cells ((vecF 8 (gwK a B n).1).map (.int .i64)), .raw (.deferred (some [])), .dead] (by omega) (by omega) rfl ⟨rfl, rfl, rfl, rfl, rfl, rfl, rfl, rfl, rfl, trivial⟩ (Nat.le_refl _) (hlH _ (by omega)) (hlL _) (by simp) (fun i hi => by rw [List.mem_singleton] at hi; subst hi; exact ⟨show 3 ≤ 4 by omega, rfl⟩)
end GA
end

section
namespace GA
open Go Go.RowKit Go.Proofs
set_option pp.deepTerms true
set_option maxRecDepth 8000
set_option linter.unusedVariables false
set_option linter.unusedSimpArgs false

theorem wnRowX_c (e : Int) (B : List Bn) (π : Nat → Int) (ok : WnT e B π) (a b : Nat) (ha : (a : Int) < e) (hb : (b : Int) < e) (h : gapK B 8 (8 * a + b) ≠ 1099511627776) (R : List Nat) (hr : Comp Tryz.prog 59 [.pim (wdC e B (gapK B 8)), natA a, natA b] (.sl false (R.map natA))) :
    Comp Tryz.prog 14 [wnA e B, natA a, natA b] (.tup [.sl false (R.map natA), .int .i64 0]) := by
  have h2 := ok.ok.e2
  have hq := wnAsked_c e B π ok [(a : Int), (b : Int)] (by simp) (fun x hx => by simp only [List.mem_cons, List.not_mem_nil, or_false] at hx; omega)
  have ha8 : a < 8 := by omega
  have hb8 : b < 8 := by omega
  generalize gapK B 8 = G at *
  refine Comp.body (T := tab) (res := [.tmp 6, .tmp 7]) tab_ok [] Tryz.func14 rfl (by kernel_rfl) Tryz.ntmps14 rfl (by simp only [List.length_cons, List.length_nil]; decide) (by simp only [lowL, AV.low, wnL]; rfl) ?_; conv => whnf
  repeat' first | ((with_reducible first | refine XBr.y1 fun h => ?_ | refine XBr.n1 fun h => ?_ | refine XBr.beq (fun h => ?_) fun h => ?_ | refine XBr.y2 fun h => ?_ | refine XBr.n2 fun h => ?_ | refine XBr.bne (fun h => ?_) fun h => ?_) <;> conv => whnf) | ((first | refine XHold.a ?_ | refine XCall.ret hq ?_ | refine XArr.gpP a rfl ha8 ?_ | refine XArr.gpM b rfl hb8 ha8 ?_ | refine XCall.ret hr ?_); conv => whnf) | fail
  exact ⟨.low (by show (lowL 0 (R.map natA) && _) = true; rw [lowNt]; rfl)⟩
theorem wnSh1_c (n : Int) (B : List Bn) (hB : B.length ≤ 100) : Comp Tryz.prog 64 [.int .i64 n, .pim [.sl false (B.map wyA)]] (.bool (inZ n 0 ((B.length : Int) - 1))) := by
  have e1 : ((B.map wyA).length : Int) = B.length := by rw [List.length_map]
  have hi := wnIn_c n 0 (((B.map wyA).length : Int) - 1)
  refine Comp.body (T := tab) (res := [.tmp 3]) tab_ok [] Tryz.func64 rfl (by kernel_rfl) Tryz.ntmps64 rfl (by simp only [List.length_cons, List.length_nil]; decide) (by simp only [lowL, AV.low, lowWy]; rfl) ?_; conv => whnf
  repeat' first | ((first | (with_reducible refine XInt.a ?_) | (refine XCall.ret hi ?_)); conv => whnf) | fail
  exact XOut.bool (by rw [e1])
def sumR (B : List Bn) (R : List Nat) : Nat → Int
  | 0 => 0
  | k + 1 => sumR B R k + (B.getD (R.getD k 0) default).2.2
def endR (B : List Bn) (a : Int) (R : List Nat) : Nat → Int
  | 0 => a
  | k + 1 => (B.getD (R.getD k 0) default).2.1
structure RowG (B : List Bn) (a b : Int) (R : List Nat) : Prop where
  lt : ∀ k, k < R.length → R.getD k 0 < B.length ∧ (B.getD (R.getD k 0) default).1 = endR B a R k
  en : endR B a R R.length = b
  l : R.length ≤ B.length
theorem sumR_b {B : List Bn} (ok : BnOk B) {R : List Nat} (h : ∀ k, k < R.length → R.getD k 0 < B.length) : ∀ k, k ≤ R.length → -1000 * (k : Int) ≤ sumR B R k ∧ sumR B R k ≤ 1000 * (k : Int)
  | 0, _ => by show _ ≤ (0 : Int) ∧ (0 : Int) ≤ _; omega
  | k + 1, hk => by
    have h1 := sumR_b ok h k (by omega)
    have h2 := ok.mo _ (getD_mem (d := default) (h k (by omega)))
    show _ ≤ sumR B R k + _ ∧ sumR B R k + _ ≤ _
    omega
set_option maxHeartbeats 1000000 in
theorem wnShows_c (e : Int) (B : List Bn) (ok : WnOk e B) (a b : Nat) (ha : (a : Int) < e) (hb : (b : Int) < e) (R : List Nat) (hR : RowG B a b R) :
    Comp Tryz.prog 15 [wnA e B, natA a, natA b, .sl false (R.map natA)] (.tup [.int .i64 (sumR B R R.length), .int .i64 0]) := by
  have h1 := ok.e1; have h2 := ok.e2; have l1 := ok.ok.len; have l2 := hR.l
  have e1 : ((B.map wyA).length : Int) = B.length := by rw [List.length_map]
  have e2 : ((R.map natA).length : Int) = R.length := by rw [List.length_map]
  have hc := wnCheck_c e B ok
  have hall := wnAll_c e B (by omega)
  have v1 := wnEvent_c e B a h1 h2
  have v2 := wnEvent_c e B b h1 h2
  rw [inZ_iff.2 (by omega)] at v1 v2
  have hnt : ints (R.map fun n : Nat => (n : Int)) = R.map natA := by unfold ints; rw [List.map_map]; rfl
  have hev := everywf_zi false (R.map fun n : Nat => (n : Int)) 64 [.pim [.sl false (B.map wyA)]] (fun n => inZ n 0 ((B.length : Int) - 1)) (by simp only [lowL, AV.low, lowWy]; rfl) (by rw [List.length_map]; omega) fun x _ => wnSh1_c x B (by omega)
  rw [List.all_eq_true.2 fun x hx => by
    obtain ⟨n, hn, rfl⟩ := List.mem_map.1 hx
    obtain ⟨k, hk, rfl⟩ := List.mem_iff_getElem.1 hn
    have := (hR.lt k hk).1
    rw [List.getD_eq_getElem?_getD, List.getElem?_eq_getElem hk] at this
    exact inZ_iff.2 (by simp at this; omega), hnt] at hev
  have hsb := sumR_b ok.ok (R := R) fun k hk => (hR.lt k hk).1
  refine Comp.body (T := tab) (res := [.tmp 8, .tmp 9]) tab_ok [] Tryz.func15 rfl (by kernel_rfl) Tryz.ntmps15 rfl (by simp only [List.length_cons, List.length_nil]; decide) (by simp only [lowL, AV.low, wnL, lowNt]; rfl) ?_; conv => whnf
  repeat' first | ((with_reducible first | apply XBr.tt | apply XBr.ff | refine XBr.y fun h => ?_ | refine XBr.n fun h => ?_ | refine XBr.dec (fun h => ?_) fun h => ?_ | refine XBr.y2 fun h => ?_ | refine XBr.n2 fun h => ?_ | refine XBr.bne (fun h => ?_) fun h => ?_) <;> conv => whnf) | with_reducible apply XBr.not | ((first | refine XCall.ret hc ?_ | refine XCall.ret hall ?_ | refine XCall.ret v1 ?_ | refine XCall.ret v2 ?_ | refine XCall.lend hev (.cons (.low (lowNt _)) (.cons (Froz.fn (.cons (Froz.ptr rfl (one1 rfl) (.cons (.low (lowWy _)) .nil)) .nil)) .nil)) rfl ?_); conv => whnf) | fail
  refine Walk.loopGK tab_ok [] [(2, _), (11, _), (45, _), (46, _)] ⟨rfl, rfl, rfl, rfl, trivial⟩ (fun k : Nat => k ≤ R.length) (fun k => [(1, .int .i64 (endR B a R k)), (12, .int .i64 (sumR B R k)), (47, natA k)]) (fun k => [.cells [.sl false (B.map wyA)]]) (fun k => R.length - k) 0 (Nat.zero_le _) rfl ⟨rfl, rfl, rfl, trivial⟩ ?_ (fun _ _ => (show (1 : Nat) ≤ 1 from Nat.le_refl 1)) ?_
  · intro k _
    refine ⟨fun z hz => ?_, fun z hz => ?_⟩
    · rw [List.mem_singleton] at hz; subst hz; show lowL 1 [AV.sl false (B.map wyA)] = true; simp only [lowL, AV.low, lowWy]; rfl
    · simp only [List.cons_append, List.nil_append, List.mem_cons, List.not_mem_nil, or_false] at hz
      rcases hz with rfl | rfl | rfl | rfl | rfl | rfl | rfl <;> first | rfl | exact lowNt _
  intro k hk
  conv => whnf
  by_cases hlt : k < R.length
  · obtain ⟨g1, g2⟩ : R.getD k default < B.length ∧ (B.getD (R.getD k default) default).1 = endR B a R k := hR.lt k hlt
    have hs1 := hsb k hk
    have hm := ok.ok.mo _ (getD_mem (d := default) g1)
    have hsn : sumR B R (k + 1) = sumR B R k + (B.getD (R.getD k default) default).2.2 := rfl
    repeat' first | ((with_reducible first | refine XBr.y fun h => ?_ | refine XBr.n fun h => ?_ | refine XBr.dec (fun h => ?_) fun h => ?_ | refine XBr.y2 fun h => ?_ | refine XBr.n2 fun h => ?_ | refine XBr.bne (fun h => ?_) fun h => ?_ | refine XInt.a ?_ | apply Chk.go | apply ChkA.go | apply ChkF.go | apply ChkB.go | apply XNext.mk) <;> conv => whnf) | (refine XIx.a ?_; conv => whnf) | (with_reducible first | apply XAnd.mk | exact trivial) | (exact XSame.mk rfl rfl) | (apply Walk.drawN (id := 18) tab_ok mixed_ok [] [] (hsU _) [_, _, _, _, _, _, _, _] (by kernel_rfl) rfl) | fail
    exact XAgainG.go (k + 1) [_] (by omega) (by omega) rfl ⟨rfl, rfl, rfl, rfl, rfl, rfl, rfl, trivial⟩
  obtain rfl : k = R.length := by omega
  rw [hR.en]
  repeat' ((with_reducible first | refine XBr.y fun h => ?_ | refine XBr.n fun h => ?_ | refine XBr.dec (fun h => ?_) fun h => ?_ | refine XBr.y2 fun h => ?_ | refine XBr.n2 fun h => ?_ | refine XBr.bne (fun h => ?_) fun h => ?_) <;> conv => whnf)
  exact ⟨.low rfl⟩
theorem wnTwin_c : Comp Tryz.prog 67 [.sl true []] (.sl true []) := by
  have e0 : (([] : List AV).length : Int) = 0 := rfl
  have hc := clone_wc
  refine Comp.body (T := tab) (res := [.tmp 2]) tab_ok [] Tryz.func67 rfl (by kernel_rfl) Tryz.ntmps67 rfl (by simp only [List.length_cons, List.length_nil]; decide) (by rfl) ?_; conv => whnf
  repeat' ((refine XCall.ret hc ?_); conv => whnf)
  refine Walk.loopK tab_ok [] [(2, _), (3, _), (8, _), (9, _)] ⟨rfl, rfl, rfl, rfl, trivial⟩ (fun i : Nat => i ≤ 0) (fun i => [(10, natA i)]) (fun _ => []) (fun i => 0 - i) 0 (Nat.le_refl _) rfl ⟨rfl, trivial⟩ ?_
  intro i hi
  obtain rfl : i = 0 := by omega
  conv => whnf
  repeat' ((with_reducible first | refine XBr.y fun h => ?_ | refine XBr.n fun h => ?_ | refine XBr.dec (fun h => ?_) fun h => ?_) <;> conv => whnf)
  exact ⟨.low rfl⟩
set_option maxHeartbeats 1000000 in
theorem wnTold1_c (e : Int) (B : List Bn) (ok : WnOk e B) (x : Bn) (hx : WnOk e [x]) (hl : B.length < 20) : Comp Tryz.prog 16 [wnA e B, wyA x] (.tup [wnA e (B ++ [x]), .int .i64 0]) := by
  have e1 : ((B.map wyA).length : Int) = B.length := by rw [List.length_map]
  have hc := wnCheck_c e B ok
  have hb := wnBounds_c e B [x] hx
  have htw := wnTwin_c
  have hne := hx.ok.ne x (List.mem_singleton.2 rfl)
  have hw : wide 3 (B.map wyA) = true := wide_map (f := wyA) (n := 3) (fun _ => rfl) (fun _ => rfl) _
  have hn1 : (((B.map wyA).length : Int) + 1).toNat = B.length + 1 := by omega
  have hn0 : ((B.map wyA).length : Int).toNat = B.length := by omega
  have hcp : ∀ z : AV, splice (List.replicate (((B.map wyA).length : Int) + 1).toNat z) 0 ((B.map wyA).take (((B.map wyA).length : Int) + 1).toNat) = B.map wyA ++ [z] := fun z => by
    rw [hn1, List.take_of_length_le (by rw [List.length_map]; omega)]
    unfold splice
    rw [List.take_zero, List.nil_append, List.length_map, Nat.zero_add, List.drop_replicate, show B.length + 1 - B.length = 1 by omega]; rfl
  have hlz : ∀ z : AV, (B.map wyA ++ [z]).length = (((B.map wyA).length : Int) + 1).toNat := fun z => by rw [hn1, List.length_append, List.length_map]; rfl
  have hset : ∀ z : AV, (B.map wyA ++ [z]).set ((B.map wyA).length : Int).toNat (wyA x) = B.map wyA ++ [wyA x] := fun z => by
    rw [List.set_append_right _ _ (by rw [List.length_map]; omega), show ((B.map wyA).length : Int).toNat - (B.map wyA).length = 0 by omega]; rfl
  refine Comp.body (T := tab) (res := [.cell 4 62, .tmp 5]) tab_ok [2, 41] Tryz.func16 rfl (by kernel_rfl) Tryz.ntmps16 rfl (by simp only [List.length_cons, List.length_nil]; decide) (by simp only [lowL, AV.low, wnL, wyL]; rfl) ?_; conv => whnf
  repeat' first | ((with_reducible first | refine XBr.y1 fun h => ?_ | refine XBr.n1 fun h => ?_ | refine XBr.beq (fun h => ?_) fun h => ?_ | refine XBr.y2 fun h => ?_ | refine XBr.n2 fun h => ?_ | refine XBr.bne (fun h => ?_) fun h => ?_ | refine XInt.a ?_) <;> conv => whnf) | ((first | refine XHold.a ?_ | refine XCall.ret hc ?_ | refine XCall.ret hb ?_ | refine XCall.ret htw ?_ | refine XHold.mk ⟨rfl, by rw [List.length_replicate]⟩ ?_ | (refine XPutEls.mk ?_; rw [hcp]) | refine XHold.mk ⟨hlz _, rfl, by omega, by omega⟩ ?_ | refine XPut.to (B.map wyA ++ [wyA x]) (hlz _).symm (by omega) (hset _) ?_); conv => whnf) | fail
  have hm : (B ++ [x]).map wyA = B.map wyA ++ [wyA x] := by rw [List.map_append]; rfl
  have hlw : lowL 0 (B.map wyA ++ [wyA x]) = true := by rw [← hm]; exact lowWy _
  unfold wnA wnC
  rw [hm]
  exact ⟨Froz.tup (.cons (Froz.agg (by simp [AV.one]) (.cons (.low rfl) (.cons (Froz.grow rfl (hlz _) hlw) (.cons (.low rfl) (.cons (.low rfl) .nil))))) (.cons (.low rfl) .nil))⟩
end GA
end

section
namespace GA
open Go Go.RowKit Go.Proofs
set_option maxRecDepth 8000
set_option linter.unusedVariables false
set_option linter.unusedSimpArgs false

def hmB (t w z : Int) : List Bn := [(0, 1, t), (1, 2, w), (2, 1, 0 - w), (3, 0, z), (1, 4, -1)]
structure HmN (t w z : Int) : Prop where
  t0 : 0 ≤ t
  t1 : t ≤ 100
  w1 : 1 ≤ w
  w2 : w ≤ 20
  z1 : -1000 ≤ z
  z2 : t + w + z < 0
def hmP (t w z : Int) : Nat → Int
  | 0 => 0
  | 1 => t
  | 2 => t + w
  | 3 => -z
  | _ => t - 1
theorem hmB_ok {t w z : Int} (h : HmN t w z) : WnOk 5 (hmB t w z) := by
  have t0 := h.t0; have t1 := h.t1; have w1 := h.w1; have w2 := h.w2; have z1 := h.z1; have z2 := h.z2
  have hm : ∀ x ∈ hmB t w z, x = (0, 1, t) ∨ x = (1, 2, w) ∨ x = (2, 1, 0 - w) ∨ x = (3, 0, z) ∨ x = (1, 4, -1) := fun x hx => by simpa [hmB] using hx
  refine ⟨⟨by show (5 : Nat) ≤ 20; omega, fun x hx => ?_, fun x hx => ?_, fun x hx => ?_, fun x hx => ?_⟩, by omega, by omega, fun x hx => ?_⟩ <;> rcases hm x hx with rfl | rfl | rfl | rfl | rfl <;> dsimp only <;> omega
theorem hmB_t {t w z : Int} (h : HmN t w z) : ∀ x ∈ hmB t w z, hmP t w z x.2.1.toNat ≤ hmP t w z x.1.toNat + x.2.2 := by
  have hm : ∀ x ∈ hmB t w z, x = (0, 1, t) ∨ x = (1, 2, w) ∨ x = (2, 1, 0 - w) ∨ x = (3, 0, z) ∨ x = (1, 4, -1) := fun x hx => by simpa [hmB] using hx
  intro x hx
  rcases hm x hx with rfl | rfl | rfl | rfl | rfl
  · show t ≤ 0 + t; omega
  · show t + w ≤ t + w; omega
  · show t ≤ t + w + (0 - w); omega
  · show (0 : Int) ≤ -z + z; omega
  · show t - 1 ≤ t + -1; omega
theorem hmB_wt {t w z : Int} (h : HmN t w z) : WnT 5 (hmB t w z) (hmP t w z) := ⟨hmB_ok h, hmB_t h⟩
theorem hmL_wt {t w z : Int} (h : HmN t w z) : WnT 5 (hmB t w z ++ [(3, 4, 0)]) (hmP t w z) := by
  have t0 := h.t0; have w1 := h.w1; have z2 := h.z2
  have ho := hmB_ok h
  have hm : ∀ x ∈ hmB t w z ++ [(3, 4, 0)], x ∈ hmB t w z ∨ x = (3, 4, 0) := fun x hx => by simpa using hx
  refine ⟨⟨⟨by show (6 : Nat) ≤ 20; omega, fun x hx => ?_, fun x hx => ?_, fun x hx => ?_, fun x hx => ?_⟩, by omega, by omega, fun x hx => ?_⟩, fun x hx => ?_⟩ <;> rcases hm x hx with hx | rfl
  · exact ho.ok.mo x hx
  · dsimp only; omega
  · exact ho.ok.fr x hx
  · dsimp only; omega
  · exact ho.ok.to x hx
  · dsimp only; omega
  · exact ho.ok.ne x hx
  · dsimp only; omega
  · exact ho.ev x hx
  · dsimp only; omega
  · exact hmB_t h x hx
  · show t - 1 ≤ -z + 0; omega
theorem gap_first (B : List Bn) (a : Nat) (ha : a < 8) : gapK B 0 (8 * a + a) ≤ 0 := by
  show gap0 (8 * a + a) ≤ 0
  unfold gap0
  rw [if_pos (by omega)]; exact Int.le_refl _
theorem gap_down {B : List Bn} {n j : Nat} {S : Int} (hn : n ≤ 8) (h : gapK B n j ≤ S) : gapK B 8 j ≤ S := by
  have := gapK_le B j n (8 - n)
  rw [show n + (8 - n) = 8 by omega] at this
  exact Int.le_trans this h
theorem gap_32 {t w z : Int} (h : HmN t w z) {B : List Bn} (hB : ∀ x ∈ hmB t w z, x ∈ B) : gapK B 8 (8 * 3 + 2) < 0 ∧ gapK B 8 (8 * 3 + 4) < 0 := by
  have t0 := h.t0; have t1 := h.t1; have w1 := h.w1; have w2 := h.w2; have z1 := h.z1; have z2 := h.z2
  have g1 := gapK_hop (B := B) (n := 0) (x := (3, 0, z)) (a := 3) (f := 3) (t := 0) (S := 0) (hB _ (by simp [hmB])) rfl rfl (by omega) (by omega) (by decide) (gap_first B 3 (by omega))
  have g2 := gapK_hop (B := B) (n := 1) (x := (0, 1, t)) (a := 3) (f := 0) (t := 1) (S := 0 + z) (hB _ (by simp [hmB])) rfl rfl (by omega) (by omega) (by unfold farZ; omega) g1
  have g3 := gapK_hop (B := B) (n := 2) (x := (1, 2, w)) (a := 3) (f := 1) (t := 2) (S := 0 + z + t) (hB _ (by simp [hmB])) rfl rfl (by omega) (by omega) (by unfold farZ; omega) g2
  have g4 := gapK_hop (B := B) (n := 2) (x := (1, 4, -1)) (a := 3) (f := 1) (t := 4) (S := 0 + z + t) (hB _ (by simp [hmB])) rfl rfl (by omega) (by omega) (by unfold farZ; omega) g2
  have g5 := gap_down (by omega) g3
  have g6 := gap_down (by omega) g4
  dsimp only at g5 g6
  omega
theorem gap_21 {t w z : Int} (h : HmN t w z) : gapK (hmB t w z) 8 (8 * 2 + 1) < 0 := by
  have w1 := h.w1
  have g1 := gapK_hop (B := hmB t w z) (n := 0) (x := (2, 1, 0 - w)) (a := 2) (f := 2) (t := 1) (S := 0) (by simp [hmB]) rfl rfl (by omega) (by omega) (by decide) (gap_first _ 2 (by omega))
  have g2 := gap_down (by omega) g1
  dsimp only at g2
  omega
theorem gap_14 {t w z : Int} (h : HmN t w z) : gapK (hmB t w z) 8 (8 * 1 + 4) < 0 := by
  have g1 := gapK_hop (B := hmB t w z) (n := 0) (x := (1, 4, -1)) (a := 1) (f := 1) (t := 4) (S := 0) (by simp [hmB]) rfl rfl (by omega) (by omega) (by decide) (gap_first _ 1 (by omega))
  have g2 := gap_down (by omega) g1
  dsimp only at g2
  omega
theorem gwX_hit {a : Int} {W : Nat → Int} {x : Bn} {i : Nat} {S : GwS} (h1 : W x.1.toNat ≠ farZ) (h2 : W x.1.toNat + x.2.2 < S.1 x.2.1.toNat) : gwX a W x i S = (updV S.1 x.2.1.toNat (W x.1.toNat + x.2.2), mput2 (a, x.2.1) (natA i) S.2) := if_pos ⟨h1, h2⟩
theorem gwX_far {a : Int} {W : Nat → Int} {x : Bn} {i : Nat} {S : GwS} (h1 : W x.1.toNat = farZ) : gwX a W x i S = S := if_neg fun h => h.1 h1
theorem gwX_no {a : Int} {W : Nat → Int} {x : Bn} {i : Nat} {S : GwS} (h1 : S.1 x.2.1.toNat ≤ W x.1.toNat + x.2.2) : gwX a W x i S = S := if_neg fun h => by have := h.2; omega
theorem gwL5 (a : Int) (t w z : Int) (W : Nat → Int) (S : GwS) : gwL a (hmB t w z) W S 5 = gwX a W (1, 4, -1) 4 (gwX a W (3, 0, z) 3 (gwX a W (2, 1, 0 - w) 2 (gwX a W (1, 2, w) 1 (gwX a W (0, 1, t) 0 S)))) := rfl
def f5 (a b c d e : Int) : Nat → Int
  | 0 => a
  | 1 => b
  | 2 => c
  | 3 => d
  | 4 => e
  | _ => farZ
theorem f5_0 (a b c d e v : Int) : updV (f5 a b c d e) 0 v = f5 v b c d e := by funext j; unfold updV; rcases j with _ | _ | _ | _ | _ | j <;> rfl
theorem f5_1 (a b c d e v : Int) : updV (f5 a b c d e) 1 v = f5 a v c d e := by funext j; unfold updV; rcases j with _ | _ | _ | _ | _ | j <;> rfl
theorem f5_2 (a b c d e v : Int) : updV (f5 a b c d e) 2 v = f5 a b v d e := by funext j; unfold updV; rcases j with _ | _ | _ | _ | _ | j <;> rfl
theorem f5_4 (a b c d e v : Int) : updV (f5 a b c d e) 4 v = f5 a b c d v := by funext j; unfold updV; rcases j with _ | _ | _ | _ | _ | j <;> rfl
theorem gwI3 : gwI 3 = f5 farZ farZ farZ 0 farZ := by funext j; unfold gwI; rcases j with _ | _ | _ | _ | _ | j <;> first | rfl | (rw [if_neg (by omega)]; rfl)
theorem gwI2 : gwI 2 = f5 farZ farZ 0 farZ farZ := by funext j; unfold gwI; rcases j with _ | _ | _ | _ | _ | j <;> first | rfl | (rw [if_neg (by omega)]; rfl)
theorem gwI1 : gwI 1 = f5 farZ 0 farZ farZ farZ := by funext j; unfold gwI; rcases j with _ | _ | _ | _ | _ | j <;> first | rfl | (rw [if_neg (by omega)]; rfl)
end GA
end

section
namespace GA
open Go Go.RowKit Go.Proofs
set_option maxRecDepth 8000
set_option linter.unusedVariables false
set_option linter.unusedSimpArgs false

theorem g31 {t w z : Int} (h : HmN t w z) : gwK 3 (hmB t w z) 1 = ((f5 (0 + z) farZ farZ 0 farZ, [((3, 0), natA 3)]) : GwS) := by
  have t0 := h.t0; have t1 := h.t1; have w1 := h.w1; have w2 := h.w2; have z1 := h.z1; have z2 := h.z2
  show gwL (3 : Nat) (hmB t w z) (gwK 3 (hmB t w z) 0).1 (gwK 3 (hmB t w z) 0) 5 = _
  rw [show gwK 3 (hmB t w z) 0 = ((f5 farZ farZ farZ 0 farZ, []) : GwS) from by show (gwI 3, []) = _; rw [gwI3], gwL5]
  have e0 : gwX ((3 : Nat) : Int) (f5 farZ farZ farZ 0 farZ) (0, 1, t) 0 ((f5 farZ farZ farZ 0 farZ, []) : GwS) = ((f5 farZ farZ farZ 0 farZ, []) : GwS) := gwX_far rfl
  have e1 : gwX ((3 : Nat) : Int) (f5 farZ farZ farZ 0 farZ) (1, 2, w) 1 ((f5 farZ farZ farZ 0 farZ, []) : GwS) = ((f5 farZ farZ farZ 0 farZ, []) : GwS) := gwX_far rfl
  have e2 : gwX ((3 : Nat) : Int) (f5 farZ farZ farZ 0 farZ) (2, 1, 0 - w) 2 ((f5 farZ farZ farZ 0 farZ, []) : GwS) = ((f5 farZ farZ farZ 0 farZ, []) : GwS) := gwX_far rfl
  have e3 : gwX ((3 : Nat) : Int) (f5 farZ farZ farZ 0 farZ) (3, 0, z) 3 ((f5 farZ farZ farZ 0 farZ, []) : GwS) = ((f5 (0 + z) farZ farZ 0 farZ, [((3, 0), natA 3)]) : GwS) := (gwX_hit (by show 0 ≠ (1099511627776 : Int); omega) (by show 0 + (z) < (1099511627776 : Int); omega)).trans (by show ((updV (f5 farZ farZ farZ 0 farZ) 0 (0 + (z)), _) : GwS) = _; rw [f5_0]; rfl)
  have e4 : gwX ((3 : Nat) : Int) (f5 farZ farZ farZ 0 farZ) (1, 4, -1) 4 ((f5 (0 + z) farZ farZ 0 farZ, [((3, 0), natA 3)]) : GwS) = ((f5 (0 + z) farZ farZ 0 farZ, [((3, 0), natA 3)]) : GwS) := gwX_far rfl
  rw [e0, e1, e2, e3, e4]
theorem g32 {t w z : Int} (h : HmN t w z) : gwK 3 (hmB t w z) 2 = ((f5 (0 + z) (0 + z + t) farZ 0 farZ, [((3, 0), natA 3), ((3, 1), natA 0)]) : GwS) := by
  have t0 := h.t0; have t1 := h.t1; have w1 := h.w1; have w2 := h.w2; have z1 := h.z1; have z2 := h.z2
  show gwL (3 : Nat) (hmB t w z) (gwK 3 (hmB t w z) 1).1 (gwK 3 (hmB t w z) 1) 5 = _
  rw [g31 h, gwL5]
  have e0 : gwX ((3 : Nat) : Int) (f5 (0 + z) farZ farZ 0 farZ) (0, 1, t) 0 ((f5 (0 + z) farZ farZ 0 farZ, [((3, 0), natA 3)]) : GwS) = ((f5 (0 + z) (0 + z + t) farZ 0 farZ, [((3, 0), natA 3), ((3, 1), natA 0)]) : GwS) := (gwX_hit (by show 0 + z ≠ (1099511627776 : Int); omega) (by show 0 + z + (t) < (1099511627776 : Int); omega)).trans (by show ((updV (f5 (0 + z) farZ farZ 0 farZ) 1 (0 + z + (t)), _) : GwS) = _; rw [f5_1]; rfl)
  have e1 : gwX ((3 : Nat) : Int) (f5 (0 + z) farZ farZ 0 farZ) (1, 2, w) 1 ((f5 (0 + z) (0 + z + t) farZ 0 farZ, [((3, 0), natA 3), ((3, 1), natA 0)]) : GwS) = ((f5 (0 + z) (0 + z + t) farZ 0 farZ, [((3, 0), natA 3), ((3, 1), natA 0)]) : GwS) := gwX_far rfl
  have e2 : gwX ((3 : Nat) : Int) (f5 (0 + z) farZ farZ 0 farZ) (2, 1, 0 - w) 2 ((f5 (0 + z) (0 + z + t) farZ 0 farZ, [((3, 0), natA 3), ((3, 1), natA 0)]) : GwS) = ((f5 (0 + z) (0 + z + t) farZ 0 farZ, [((3, 0), natA 3), ((3, 1), natA 0)]) : GwS) := gwX_far rfl
  have e3 : gwX ((3 : Nat) : Int) (f5 (0 + z) farZ farZ 0 farZ) (3, 0, z) 3 ((f5 (0 + z) (0 + z + t) farZ 0 farZ, [((3, 0), natA 3), ((3, 1), natA 0)]) : GwS) = ((f5 (0 + z) (0 + z + t) farZ 0 farZ, [((3, 0), natA 3), ((3, 1), natA 0)]) : GwS) := gwX_no (by show 0 + z ≤ 0 + (z); omega)
  have e4 : gwX ((3 : Nat) : Int) (f5 (0 + z) farZ farZ 0 farZ) (1, 4, -1) 4 ((f5 (0 + z) (0 + z + t) farZ 0 farZ, [((3, 0), natA 3), ((3, 1), natA 0)]) : GwS) = ((f5 (0 + z) (0 + z + t) farZ 0 farZ, [((3, 0), natA 3), ((3, 1), natA 0)]) : GwS) := gwX_far rfl
  rw [e0, e1, e2, e3, e4]
theorem g33 {t w z : Int} (h : HmN t w z) : gwK 3 (hmB t w z) 3 = ((f5 (0 + z) (0 + z + t) (0 + z + t + w) 0 (0 + z + t + (-1)), [((3, 0), natA 3), ((3, 1), natA 0), ((3, 2), natA 1), ((3, 4), natA 4)]) : GwS) := by
  have t0 := h.t0; have t1 := h.t1; have w1 := h.w1; have w2 := h.w2; have z1 := h.z1; have z2 := h.z2
  show gwL (3 : Nat) (hmB t w z) (gwK 3 (hmB t w z) 2).1 (gwK 3 (hmB t w z) 2) 5 = _
  rw [g32 h, gwL5]
  have e0 : gwX ((3 : Nat) : Int) (f5 (0 + z) (0 + z + t) farZ 0 farZ) (0, 1, t) 0 ((f5 (0 + z) (0 + z + t) farZ 0 farZ, [((3, 0), natA 3), ((3, 1), natA 0)]) : GwS) = ((f5 (0 + z) (0 + z + t) farZ 0 farZ, [((3, 0), natA 3), ((3, 1), natA 0)]) : GwS) := gwX_no (by show 0 + z + t ≤ 0 + z + (t); omega)
  have e1 : gwX ((3 : Nat) : Int) (f5 (0 + z) (0 + z + t) farZ 0 farZ) (1, 2, w) 1 ((f5 (0 + z) (0 + z + t) farZ 0 farZ, [((3, 0), natA 3), ((3, 1), natA 0)]) : GwS) = ((f5 (0 + z) (0 + z + t) (0 + z + t + w) 0 farZ, [((3, 0), natA 3), ((3, 1), natA 0), ((3, 2), natA 1)]) : GwS) := (gwX_hit (by show 0 + z + t ≠ (1099511627776 : Int); omega) (by show 0 + z + t + (w) < (1099511627776 : Int); omega)).trans (by show ((updV (f5 (0 + z) (0 + z + t) farZ 0 farZ) 2 (0 + z + t + (w)), _) : GwS) = _; rw [f5_2]; rfl)
  have e2 : gwX ((3 : Nat) : Int) (f5 (0 + z) (0 + z + t) farZ 0 farZ) (2, 1, 0 - w) 2 ((f5 (0 + z) (0 + z + t) (0 + z + t + w) 0 farZ, [((3, 0), natA 3), ((3, 1), natA 0), ((3, 2), natA 1)]) : GwS) = ((f5 (0 + z) (0 + z + t) (0 + z + t + w) 0 farZ, [((3, 0), natA 3), ((3, 1), natA 0), ((3, 2), natA 1)]) : GwS) := gwX_far rfl
  have e3 : gwX ((3 : Nat) : Int) (f5 (0 + z) (0 + z + t) farZ 0 farZ) (3, 0, z) 3 ((f5 (0 + z) (0 + z + t) (0 + z + t + w) 0 farZ, [((3, 0), natA 3), ((3, 1), natA 0), ((3, 2), natA 1)]) : GwS) = ((f5 (0 + z) (0 + z + t) (0 + z + t + w) 0 farZ, [((3, 0), natA 3), ((3, 1), natA 0), ((3, 2), natA 1)]) : GwS) := gwX_no (by show 0 + z ≤ 0 + (z); omega)
  have e4 : gwX ((3 : Nat) : Int) (f5 (0 + z) (0 + z + t) farZ 0 farZ) (1, 4, -1) 4 ((f5 (0 + z) (0 + z + t) (0 + z + t + w) 0 farZ, [((3, 0), natA 3), ((3, 1), natA 0), ((3, 2), natA 1)]) : GwS) = ((f5 (0 + z) (0 + z + t) (0 + z + t + w) 0 (0 + z + t + (-1)), [((3, 0), natA 3), ((3, 1), natA 0), ((3, 2), natA 1), ((3, 4), natA 4)]) : GwS) := (gwX_hit (by show 0 + z + t ≠ (1099511627776 : Int); omega) (by show 0 + z + t + (-1) < (1099511627776 : Int); omega)).trans (by show ((updV (f5 (0 + z) (0 + z + t) (0 + z + t + w) 0 farZ) 4 (0 + z + t + (-1)), _) : GwS) = _; rw [f5_4]; rfl)
  rw [e0, e1, e2, e3, e4]
theorem g34 {t w z : Int} (h : HmN t w z) : gwK 3 (hmB t w z) 4 = ((f5 (0 + z) (0 + z + t) (0 + z + t + w) 0 (0 + z + t + (-1)), [((3, 0), natA 3), ((3, 1), natA 0), ((3, 2), natA 1), ((3, 4), natA 4)]) : GwS) := by
  have t0 := h.t0; have t1 := h.t1; have w1 := h.w1; have w2 := h.w2; have z1 := h.z1; have z2 := h.z2
  show gwL (3 : Nat) (hmB t w z) (gwK 3 (hmB t w z) 3).1 (gwK 3 (hmB t w z) 3) 5 = _
  rw [g33 h, gwL5]
  have e0 : gwX ((3 : Nat) : Int) (f5 (0 + z) (0 + z + t) (0 + z + t + w) 0 (0 + z + t + (-1))) (0, 1, t) 0 ((f5 (0 + z) (0 + z + t) (0 + z + t + w) 0 (0 + z + t + (-1)), [((3, 0), natA 3), ((3, 1), natA 0), ((3, 2), natA 1), ((3, 4), natA 4)]) : GwS) = ((f5 (0 + z) (0 + z + t) (0 + z + t + w) 0 (0 + z + t + (-1)), [((3, 0), natA 3), ((3, 1), natA 0), ((3, 2), natA 1), ((3, 4), natA 4)]) : GwS) := gwX_no (by show 0 + z + t ≤ 0 + z + (t); omega)
  have e1 : gwX ((3 : Nat) : Int) (f5 (0 + z) (0 + z + t) (0 + z + t + w) 0 (0 + z + t + (-1))) (1, 2, w) 1 ((f5 (0 + z) (0 + z + t) (0 + z + t + w) 0 (0 + z + t + (-1)), [((3, 0), natA 3), ((3, 1), natA 0), ((3, 2), natA 1), ((3, 4), natA 4)]) : GwS) = ((f5 (0 + z) (0 + z + t) (0 + z + t + w) 0 (0 + z + t + (-1)), [((3, 0), natA 3), ((3, 1), natA 0), ((3, 2), natA 1), ((3, 4), natA 4)]) : GwS) := gwX_no (by show 0 + z + t + w ≤ 0 + z + t + (w); omega)
  have e2 : gwX ((3 : Nat) : Int) (f5 (0 + z) (0 + z + t) (0 + z + t + w) 0 (0 + z + t + (-1))) (2, 1, 0 - w) 2 ((f5 (0 + z) (0 + z + t) (0 + z + t + w) 0 (0 + z + t + (-1)), [((3, 0), natA 3), ((3, 1), natA 0), ((3, 2), natA 1), ((3, 4), natA 4)]) : GwS) = ((f5 (0 + z) (0 + z + t) (0 + z + t + w) 0 (0 + z + t + (-1)), [((3, 0), natA 3), ((3, 1), natA 0), ((3, 2), natA 1), ((3, 4), natA 4)]) : GwS) := gwX_no (by show 0 + z + t ≤ 0 + z + t + w + (0 - w); omega)
  have e3 : gwX ((3 : Nat) : Int) (f5 (0 + z) (0 + z + t) (0 + z + t + w) 0 (0 + z + t + (-1))) (3, 0, z) 3 ((f5 (0 + z) (0 + z + t) (0 + z + t + w) 0 (0 + z + t + (-1)), [((3, 0), natA 3), ((3, 1), natA 0), ((3, 2), natA 1), ((3, 4), natA 4)]) : GwS) = ((f5 (0 + z) (0 + z + t) (0 + z + t + w) 0 (0 + z + t + (-1)), [((3, 0), natA 3), ((3, 1), natA 0), ((3, 2), natA 1), ((3, 4), natA 4)]) : GwS) := gwX_no (by show 0 + z ≤ 0 + (z); omega)
  have e4 : gwX ((3 : Nat) : Int) (f5 (0 + z) (0 + z + t) (0 + z + t + w) 0 (0 + z + t + (-1))) (1, 4, -1) 4 ((f5 (0 + z) (0 + z + t) (0 + z + t + w) 0 (0 + z + t + (-1)), [((3, 0), natA 3), ((3, 1), natA 0), ((3, 2), natA 1), ((3, 4), natA 4)]) : GwS) = ((f5 (0 + z) (0 + z + t) (0 + z + t + w) 0 (0 + z + t + (-1)), [((3, 0), natA 3), ((3, 1), natA 0), ((3, 2), natA 1), ((3, 4), natA 4)]) : GwS) := gwX_no (by show 0 + z + t + (-1) ≤ 0 + z + t + (-1); omega)
  rw [e0, e1, e2, e3, e4]
theorem g3_st {t w z : Int} (h : HmN t w z) : vecF 8 (gwK 3 (hmB t w z) 4).1 = vecF 8 (gwK 3 (hmB t w z) 3).1 := by rw [g34 h, g33 h]
theorem g3_ne {t w z : Int} (h : HmN t w z) : ∀ n, n < 3 → vecF 8 (gwK 3 (hmB t w z) (n + 1)).1 ≠ vecF 8 (gwK 3 (hmB t w z) n).1 := by
  have t0 := h.t0; have t1 := h.t1; have w1 := h.w1; have w2 := h.w2; have z1 := h.z1; have z2 := h.z2
  intro n hn e
  have hc : n = 0 ∨ n = 1 ∨ n = 2 := by omega
  rcases hc with rfl | rfl | rfl
  · rw [g31 h, show gwK 3 (hmB t w z) 0 = ((f5 farZ farZ farZ 0 farZ, []) : GwS) from by show (gwI 3, []) = _; rw [gwI3]] at e
    have e2 := congrArg (fun l => l.getD 0 0) e
    rw [vecF_get 0 (by omega), vecF_get 0 (by omega)] at e2
    have e3 : 0 + z = (1099511627776 : Int) := e2
    omega
  · rw [g32 h, g31 h] at e
    have e2 := congrArg (fun l => l.getD 1 0) e
    rw [vecF_get 0 (by omega), vecF_get 0 (by omega)] at e2
    have e3 : 0 + z + t = (1099511627776 : Int) := e2
    omega
  · rw [g33 h, g32 h] at e
    have e2 := congrArg (fun l => l.getD 2 0) e
    rw [vecF_get 0 (by omega), vecF_get 0 (by omega)] at e2
    have e3 : 0 + z + t + w = (1099511627776 : Int) := e2
    omega
theorem g21 {t w z : Int} (h : HmN t w z) : gwK 2 (hmB t w z) 1 = ((f5 farZ (0 + (0 - w)) 0 farZ farZ, [((2, 1), natA 2)]) : GwS) := by
  have t0 := h.t0; have t1 := h.t1; have w1 := h.w1; have w2 := h.w2; have z1 := h.z1; have z2 := h.z2
  show gwL (2 : Nat) (hmB t w z) (gwK 2 (hmB t w z) 0).1 (gwK 2 (hmB t w z) 0) 5 = _
  rw [show gwK 2 (hmB t w z) 0 = ((f5 farZ farZ 0 farZ farZ, []) : GwS) from by show (gwI 2, []) = _; rw [gwI2], gwL5]
  have e0 : gwX ((2 : Nat) : Int) (f5 farZ farZ 0 farZ farZ) (0, 1, t) 0 ((f5 farZ farZ 0 farZ farZ, []) : GwS) = ((f5 farZ farZ 0 farZ farZ, []) : GwS) := gwX_far rfl
  have e1 : gwX ((2 : Nat) : Int) (f5 farZ farZ 0 farZ farZ) (1, 2, w) 1 ((f5 farZ farZ 0 farZ farZ, []) : GwS) = ((f5 farZ farZ 0 farZ farZ, []) : GwS) := gwX_far rfl
  have e2 : gwX ((2 : Nat) : Int) (f5 farZ farZ 0 farZ farZ) (2, 1, 0 - w) 2 ((f5 farZ farZ 0 farZ farZ, []) : GwS) = ((f5 farZ (0 + (0 - w)) 0 farZ farZ, [((2, 1), natA 2)]) : GwS) := (gwX_hit (by show 0 ≠ (1099511627776 : Int); omega) (by show 0 + (0 - w) < (1099511627776 : Int); omega)).trans (by show ((updV (f5 farZ farZ 0 farZ farZ) 1 (0 + (0 - w)), _) : GwS) = _; rw [f5_1]; rfl)
  have e3 : gwX ((2 : Nat) : Int) (f5 farZ farZ 0 farZ farZ) (3, 0, z) 3 ((f5 farZ (0 + (0 - w)) 0 farZ farZ, [((2, 1), natA 2)]) : GwS) = ((f5 farZ (0 + (0 - w)) 0 farZ farZ, [((2, 1), natA 2)]) : GwS) := gwX_far rfl
  have e4 : gwX ((2 : Nat) : Int) (f5 farZ farZ 0 farZ farZ) (1, 4, -1) 4 ((f5 farZ (0 + (0 - w)) 0 farZ farZ, [((2, 1), natA 2)]) : GwS) = ((f5 farZ (0 + (0 - w)) 0 farZ farZ, [((2, 1), natA 2)]) : GwS) := gwX_far rfl
  rw [e0, e1, e2, e3, e4]
theorem g22 {t w z : Int} (h : HmN t w z) : gwK 2 (hmB t w z) 2 = ((f5 farZ (0 + (0 - w)) 0 farZ (0 + (0 - w) + (-1)), [((2, 1), natA 2), ((2, 4), natA 4)]) : GwS) := by
  have t0 := h.t0; have t1 := h.t1; have w1 := h.w1; have w2 := h.w2; have z1 := h.z1; have z2 := h.z2
  show gwL (2 : Nat) (hmB t w z) (gwK 2 (hmB t w z) 1).1 (gwK 2 (hmB t w z) 1) 5 = _
  rw [g21 h, gwL5]
  have e0 : gwX ((2 : Nat) : Int) (f5 farZ (0 + (0 - w)) 0 farZ farZ) (0, 1, t) 0 ((f5 farZ (0 + (0 - w)) 0 farZ farZ, [((2, 1), natA 2)]) : GwS) = ((f5 farZ (0 + (0 - w)) 0 farZ farZ, [((2, 1), natA 2)]) : GwS) := gwX_far rfl
  have e1 : gwX ((2 : Nat) : Int) (f5 farZ (0 + (0 - w)) 0 farZ farZ) (1, 2, w) 1 ((f5 farZ (0 + (0 - w)) 0 farZ farZ, [((2, 1), natA 2)]) : GwS) = ((f5 farZ (0 + (0 - w)) 0 farZ farZ, [((2, 1), natA 2)]) : GwS) := gwX_no (by show 0 ≤ 0 + (0 - w) + (w); omega)
  have e2 : gwX ((2 : Nat) : Int) (f5 farZ (0 + (0 - w)) 0 farZ farZ) (2, 1, 0 - w) 2 ((f5 farZ (0 + (0 - w)) 0 farZ farZ, [((2, 1), natA 2)]) : GwS) = ((f5 farZ (0 + (0 - w)) 0 farZ farZ, [((2, 1), natA 2)]) : GwS) := gwX_no (by show 0 + (0 - w) ≤ 0 + (0 - w); omega)
  have e3 : gwX ((2 : Nat) : Int) (f5 farZ (0 + (0 - w)) 0 farZ farZ) (3, 0, z) 3 ((f5 farZ (0 + (0 - w)) 0 farZ farZ, [((2, 1), natA 2)]) : GwS) = ((f5 farZ (0 + (0 - w)) 0 farZ farZ, [((2, 1), natA 2)]) : GwS) := gwX_far rfl
  have e4 : gwX ((2 : Nat) : Int) (f5 farZ (0 + (0 - w)) 0 farZ farZ) (1, 4, -1) 4 ((f5 farZ (0 + (0 - w)) 0 farZ farZ, [((2, 1), natA 2)]) : GwS) = ((f5 farZ (0 + (0 - w)) 0 farZ (0 + (0 - w) + (-1)), [((2, 1), natA 2), ((2, 4), natA 4)]) : GwS) := (gwX_hit (by show 0 + (0 - w) ≠ (1099511627776 : Int); omega) (by show 0 + (0 - w) + (-1) < (1099511627776 : Int); omega)).trans (by show ((updV (f5 farZ (0 + (0 - w)) 0 farZ farZ) 4 (0 + (0 - w) + (-1)), _) : GwS) = _; rw [f5_4]; rfl)
  rw [e0, e1, e2, e3, e4]
theorem g23 {t w z : Int} (h : HmN t w z) : gwK 2 (hmB t w z) 3 = ((f5 farZ (0 + (0 - w)) 0 farZ (0 + (0 - w) + (-1)), [((2, 1), natA 2), ((2, 4), natA 4)]) : GwS) := by
  have t0 := h.t0; have t1 := h.t1; have w1 := h.w1; have w2 := h.w2; have z1 := h.z1; have z2 := h.z2
  show gwL (2 : Nat) (hmB t w z) (gwK 2 (hmB t w z) 2).1 (gwK 2 (hmB t w z) 2) 5 = _
  rw [g22 h, gwL5]
  have e0 : gwX ((2 : Nat) : Int) (f5 farZ (0 + (0 - w)) 0 farZ (0 + (0 - w) + (-1))) (0, 1, t) 0 ((f5 farZ (0 + (0 - w)) 0 farZ (0 + (0 - w) + (-1)), [((2, 1), natA 2), ((2, 4), natA 4)]) : GwS) = ((f5 farZ (0 + (0 - w)) 0 farZ (0 + (0 - w) + (-1)), [((2, 1), natA 2), ((2, 4), natA 4)]) : GwS) := gwX_far rfl
  have e1 : gwX ((2 : Nat) : Int) (f5 farZ (0 + (0 - w)) 0 farZ (0 + (0 - w) + (-1))) (1, 2, w) 1 ((f5 farZ (0 + (0 - w)) 0 farZ (0 + (0 - w) + (-1)), [((2, 1), natA 2), ((2, 4), natA 4)]) : GwS) = ((f5 farZ (0 + (0 - w)) 0 farZ (0 + (0 - w) + (-1)), [((2, 1), natA 2), ((2, 4), natA 4)]) : GwS) := gwX_no (by show 0 ≤ 0 + (0 - w) + (w); omega)
  have e2 : gwX ((2 : Nat) : Int) (f5 farZ (0 + (0 - w)) 0 farZ (0 + (0 - w) + (-1))) (2, 1, 0 - w) 2 ((f5 farZ (0 + (0 - w)) 0 farZ (0 + (0 - w) + (-1)), [((2, 1), natA 2), ((2, 4), natA 4)]) : GwS) = ((f5 farZ (0 + (0 - w)) 0 farZ (0 + (0 - w) + (-1)), [((2, 1), natA 2), ((2, 4), natA 4)]) : GwS) := gwX_no (by show 0 + (0 - w) ≤ 0 + (0 - w); omega)
  have e3 : gwX ((2 : Nat) : Int) (f5 farZ (0 + (0 - w)) 0 farZ (0 + (0 - w) + (-1))) (3, 0, z) 3 ((f5 farZ (0 + (0 - w)) 0 farZ (0 + (0 - w) + (-1)), [((2, 1), natA 2), ((2, 4), natA 4)]) : GwS) = ((f5 farZ (0 + (0 - w)) 0 farZ (0 + (0 - w) + (-1)), [((2, 1), natA 2), ((2, 4), natA 4)]) : GwS) := gwX_far rfl
  have e4 : gwX ((2 : Nat) : Int) (f5 farZ (0 + (0 - w)) 0 farZ (0 + (0 - w) + (-1))) (1, 4, -1) 4 ((f5 farZ (0 + (0 - w)) 0 farZ (0 + (0 - w) + (-1)), [((2, 1), natA 2), ((2, 4), natA 4)]) : GwS) = ((f5 farZ (0 + (0 - w)) 0 farZ (0 + (0 - w) + (-1)), [((2, 1), natA 2), ((2, 4), natA 4)]) : GwS) := gwX_no (by show 0 + (0 - w) + (-1) ≤ 0 + (0 - w) + (-1); omega)
  rw [e0, e1, e2, e3, e4]
theorem g2_st {t w z : Int} (h : HmN t w z) : vecF 8 (gwK 2 (hmB t w z) 3).1 = vecF 8 (gwK 2 (hmB t w z) 2).1 := by rw [g23 h, g22 h]
theorem g2_ne {t w z : Int} (h : HmN t w z) : ∀ n, n < 2 → vecF 8 (gwK 2 (hmB t w z) (n + 1)).1 ≠ vecF 8 (gwK 2 (hmB t w z) n).1 := by
  have t0 := h.t0; have t1 := h.t1; have w1 := h.w1; have w2 := h.w2; have z1 := h.z1; have z2 := h.z2
  intro n hn e
  have hc : n = 0 ∨ n = 1 := by omega
  rcases hc with rfl | rfl
  · rw [g21 h, show gwK 2 (hmB t w z) 0 = ((f5 farZ farZ 0 farZ farZ, []) : GwS) from by show (gwI 2, []) = _; rw [gwI2]] at e
    have e2 := congrArg (fun l => l.getD 1 0) e
    rw [vecF_get 0 (by omega), vecF_get 0 (by omega)] at e2
    have e3 : 0 + (0 - w) = (1099511627776 : Int) := e2
    omega
  · rw [g22 h, g21 h] at e
    have e2 := congrArg (fun l => l.getD 4 0) e
    rw [vecF_get 0 (by omega), vecF_get 0 (by omega)] at e2
    have e3 : 0 + (0 - w) + (-1) = (1099511627776 : Int) := e2
    omega
theorem g11 {t w z : Int} (h : HmN t w z) : gwK 1 (hmB t w z) 1 = ((f5 farZ 0 (0 + w) farZ (0 + (-1)), [((1, 2), natA 1), ((1, 4), natA 4)]) : GwS) := by
  have t0 := h.t0; have t1 := h.t1; have w1 := h.w1; have w2 := h.w2; have z1 := h.z1; have z2 := h.z2
  show gwL (1 : Nat) (hmB t w z) (gwK 1 (hmB t w z) 0).1 (gwK 1 (hmB t w z) 0) 5 = _
  rw [show gwK 1 (hmB t w z) 0 = ((f5 farZ 0 farZ farZ farZ, []) : GwS) from by show (gwI 1, []) = _; rw [gwI1], gwL5]
  have e0 : gwX ((1 : Nat) : Int) (f5 farZ 0 farZ farZ farZ) (0, 1, t) 0 ((f5 farZ 0 farZ farZ farZ, []) : GwS) = ((f5 farZ 0 farZ farZ farZ, []) : GwS) := gwX_far rfl
  have e1 : gwX ((1 : Nat) : Int) (f5 farZ 0 farZ farZ farZ) (1, 2, w) 1 ((f5 farZ 0 farZ farZ farZ, []) : GwS) = ((f5 farZ 0 (0 + w) farZ farZ, [((1, 2), natA 1)]) : GwS) := (gwX_hit (by show 0 ≠ (1099511627776 : Int); omega) (by show 0 + (w) < (1099511627776 : Int); omega)).trans (by show ((updV (f5 farZ 0 farZ farZ farZ) 2 (0 + (w)), _) : GwS) = _; rw [f5_2]; rfl)
  have e2 : gwX ((1 : Nat) : Int) (f5 farZ 0 farZ farZ farZ) (2, 1, 0 - w) 2 ((f5 farZ 0 (0 + w) farZ farZ, [((1, 2), natA 1)]) : GwS) = ((f5 farZ 0 (0 + w) farZ farZ, [((1, 2), natA 1)]) : GwS) := gwX_far rfl
  have e3 : gwX ((1 : Nat) : Int) (f5 farZ 0 farZ farZ farZ) (3, 0, z) 3 ((f5 farZ 0 (0 + w) farZ farZ, [((1, 2), natA 1)]) : GwS) = ((f5 farZ 0 (0 + w) farZ farZ, [((1, 2), natA 1)]) : GwS) := gwX_far rfl
  have e4 : gwX ((1 : Nat) : Int) (f5 farZ 0 farZ farZ farZ) (1, 4, -1) 4 ((f5 farZ 0 (0 + w) farZ farZ, [((1, 2), natA 1)]) : GwS) = ((f5 farZ 0 (0 + w) farZ (0 + (-1)), [((1, 2), natA 1), ((1, 4), natA 4)]) : GwS) := (gwX_hit (by show 0 ≠ (1099511627776 : Int); omega) (by show 0 + (-1) < (1099511627776 : Int); omega)).trans (by show ((updV (f5 farZ 0 (0 + w) farZ farZ) 4 (0 + (-1)), _) : GwS) = _; rw [f5_4]; rfl)
  rw [e0, e1, e2, e3, e4]
theorem g12 {t w z : Int} (h : HmN t w z) : gwK 1 (hmB t w z) 2 = ((f5 farZ 0 (0 + w) farZ (0 + (-1)), [((1, 2), natA 1), ((1, 4), natA 4)]) : GwS) := by
  have t0 := h.t0; have t1 := h.t1; have w1 := h.w1; have w2 := h.w2; have z1 := h.z1; have z2 := h.z2
  show gwL (1 : Nat) (hmB t w z) (gwK 1 (hmB t w z) 1).1 (gwK 1 (hmB t w z) 1) 5 = _
  rw [g11 h, gwL5]
  have e0 : gwX ((1 : Nat) : Int) (f5 farZ 0 (0 + w) farZ (0 + (-1))) (0, 1, t) 0 ((f5 farZ 0 (0 + w) farZ (0 + (-1)), [((1, 2), natA 1), ((1, 4), natA 4)]) : GwS) = ((f5 farZ 0 (0 + w) farZ (0 + (-1)), [((1, 2), natA 1), ((1, 4), natA 4)]) : GwS) := gwX_far rfl
  have e1 : gwX ((1 : Nat) : Int) (f5 farZ 0 (0 + w) farZ (0 + (-1))) (1, 2, w) 1 ((f5 farZ 0 (0 + w) farZ (0 + (-1)), [((1, 2), natA 1), ((1, 4), natA 4)]) : GwS) = ((f5 farZ 0 (0 + w) farZ (0 + (-1)), [((1, 2), natA 1), ((1, 4), natA 4)]) : GwS) := gwX_no (by show 0 + w ≤ 0 + (w); omega)
  have e2 : gwX ((1 : Nat) : Int) (f5 farZ 0 (0 + w) farZ (0 + (-1))) (2, 1, 0 - w) 2 ((f5 farZ 0 (0 + w) farZ (0 + (-1)), [((1, 2), natA 1), ((1, 4), natA 4)]) : GwS) = ((f5 farZ 0 (0 + w) farZ (0 + (-1)), [((1, 2), natA 1), ((1, 4), natA 4)]) : GwS) := gwX_no (by show 0 ≤ 0 + w + (0 - w); omega)
  have e3 : gwX ((1 : Nat) : Int) (f5 farZ 0 (0 + w) farZ (0 + (-1))) (3, 0, z) 3 ((f5 farZ 0 (0 + w) farZ (0 + (-1)), [((1, 2), natA 1), ((1, 4), natA 4)]) : GwS) = ((f5 farZ 0 (0 + w) farZ (0 + (-1)), [((1, 2), natA 1), ((1, 4), natA 4)]) : GwS) := gwX_far rfl
  have e4 : gwX ((1 : Nat) : Int) (f5 farZ 0 (0 + w) farZ (0 + (-1))) (1, 4, -1) 4 ((f5 farZ 0 (0 + w) farZ (0 + (-1)), [((1, 2), natA 1), ((1, 4), natA 4)]) : GwS) = ((f5 farZ 0 (0 + w) farZ (0 + (-1)), [((1, 2), natA 1), ((1, 4), natA 4)]) : GwS) := gwX_no (by show 0 + (-1) ≤ 0 + (-1); omega)
  rw [e0, e1, e2, e3, e4]
theorem g1_st {t w z : Int} (h : HmN t w z) : vecF 8 (gwK 1 (hmB t w z) 2).1 = vecF 8 (gwK 1 (hmB t w z) 1).1 := by rw [g12 h, g11 h]
theorem g1_ne {t w z : Int} (h : HmN t w z) : ∀ n, n < 1 → vecF 8 (gwK 1 (hmB t w z) (n + 1)).1 ≠ vecF 8 (gwK 1 (hmB t w z) n).1 := by
  have t0 := h.t0; have t1 := h.t1; have w1 := h.w1; have w2 := h.w2; have z1 := h.z1; have z2 := h.z2
  intro n hn e
  have hc : n = 0 := by omega
  rcases hc with rfl
  · rw [g11 h, show gwK 1 (hmB t w z) 0 = ((f5 farZ 0 farZ farZ farZ, []) : GwS) from by show (gwI 1, []) = _; rw [gwI1]] at e
    have e2 := congrArg (fun l => l.getD 2 0) e
    rw [vecF_get 0 (by omega), vecF_get 0 (by omega)] at e2
    have e3 : 0 + w = (1099511627776 : Int) := e2
    omega
end GA
end

section
namespace GA
open Go Go.RowKit Go.Proofs
set_option pp.deepTerms true
set_option maxRecDepth 8000
set_option linter.unusedVariables false
set_option linter.unusedSimpArgs false

theorem pth32 {t w z : Int} (h : HmN t w z) : Pth (gwK 3 (hmB t w z) 4).2 (hmB t w z) (3 : Nat) (2 : Nat) [1, 0, 3] := by
  rw [g34 h]
  refine ⟨fun k hk => ?_, rfl⟩
  have hc : k = 0 ∨ k = 1 ∨ k = 2 := by simp at hk; omega
  rcases hc with rfl | rfl | rfl <;> exact ⟨of_decide_eq_true rfl, rfl, of_decide_eq_true rfl⟩
theorem pth34 {t w z : Int} (h : HmN t w z) : Pth (gwK 3 (hmB t w z) 4).2 (hmB t w z) (3 : Nat) (4 : Nat) [4, 0, 3] := by
  rw [g34 h]
  refine ⟨fun k hk => ?_, rfl⟩
  have hc : k = 0 ∨ k = 1 ∨ k = 2 := by simp at hk; omega
  rcases hc with rfl | rfl | rfl <;> exact ⟨of_decide_eq_true rfl, rfl, of_decide_eq_true rfl⟩
theorem pth21 {t w z : Int} (h : HmN t w z) : Pth (gwK 2 (hmB t w z) 3).2 (hmB t w z) (2 : Nat) (1 : Nat) [2] := by
  rw [g23 h]
  refine ⟨fun k hk => ?_, rfl⟩
  obtain rfl : k = 0 := by simp at hk; omega
  exact ⟨of_decide_eq_true rfl, rfl, of_decide_eq_true rfl⟩
theorem pth14 {t w z : Int} (h : HmN t w z) : Pth (gwK 1 (hmB t w z) 2).2 (hmB t w z) (1 : Nat) (4 : Nat) [4] := by
  rw [g12 h]
  refine ⟨fun k hk => ?_, rfl⟩
  obtain rfl : k = 0 := by simp at hk; omega
  exact ⟨of_decide_eq_true rfl, rfl, of_decide_eq_true rfl⟩
theorem gap_far {F : Nat → Int} {j : Nat} (h : F j < 0) : F j ≠ 1099511627776 := by omega
structure Tel (t w z : Int) (a b : Nat) (R : List Nat) : Prop where
  bf : Comp Tryz.prog 13 [wnA 5 (hmB t w z), natA a, natA b] (.tup [.int .i64 1, .int .i64 0])
  ro : Comp Tryz.prog 14 [wnA 5 (hmB t w z), natA b, natA a] (.tup [.sl false (R.map natA), .int .i64 0])
  sh : ∃ n : Int, n < 0 ∧ Comp Tryz.prog 15 [wnA 5 (hmB t w z), natA b, natA a, .sl false (R.map natA)] (.tup [.int .i64 n, .int .i64 0])
theorem tel23 {t w z : Int} (h : HmN t w z) : Tel t w z 2 3 [3, 0, 1] := by
  have ok := hmB_wt h
  have hg := (gap_32 h (B := hmB t w z) fun x hx => hx).1
  have z2 := h.z2
  refine ⟨wnBefore_c 5 _ _ ok 2 3 (by decide) (by decide) hg, wnRowX_c 5 _ _ ok 3 2 (by decide) (by decide) (gap_far hg) [3, 0, 1] (wnRow_c 5 _ ok.ok _ 3 2 (by decide) 3 (by decide) (g3_st h) (g3_ne h) [1, 0, 3] (pth32 h) (.inr rfl)), _, ?_, wnShows_c 5 _ ok.ok 3 2 (by decide) (by decide) [3, 0, 1] ⟨fun k hk => ?_, rfl, by show (3 : Nat) ≤ 5; omega⟩⟩
  · show 0 + z + t + w < 0; omega
  · have hc : k = 0 ∨ k = 1 ∨ k = 2 := by simp at hk; omega
    rcases hc with rfl | rfl | rfl <;> exact ⟨of_decide_eq_true rfl, rfl⟩
theorem tel12 {t w z : Int} (h : HmN t w z) : Tel t w z 1 2 [2] := by
  have ok := hmB_wt h
  have hg := gap_21 h
  have w1 := h.w1
  refine ⟨wnBefore_c 5 _ _ ok 1 2 (by decide) (by decide) hg, wnRowX_c 5 _ _ ok 2 1 (by decide) (by decide) (gap_far hg) [2] (wnRow_c 5 _ ok.ok _ 2 1 (by decide) 2 (by decide) (g2_st h) (g2_ne h) [2] (pth21 h) (.inl rfl)), _, ?_, wnShows_c 5 _ ok.ok 2 1 (by decide) (by decide) [2] ⟨fun k hk => ?_, rfl, by show (1 : Nat) ≤ 5; omega⟩⟩
  · show 0 + (0 - w) < 0; omega
  · obtain rfl : k = 0 := by simp at hk; omega
    exact ⟨of_decide_eq_true rfl, rfl⟩
theorem tel41 {t w z : Int} (h : HmN t w z) : Tel t w z 4 1 [4] := by
  have ok := hmB_wt h
  have hg := gap_14 h
  refine ⟨wnBefore_c 5 _ _ ok 4 1 (by decide) (by decide) hg, wnRowX_c 5 _ _ ok 1 4 (by decide) (by decide) (gap_far hg) [4] (wnRow_c 5 _ ok.ok _ 1 4 (by decide) 1 (by decide) (g1_st h) (g1_ne h) [4] (pth14 h) (.inl rfl)), _, ?_, wnShows_c 5 _ ok.ok 1 4 (by decide) (by decide) [4] ⟨fun k hk => ?_, rfl, by show (1 : Nat) ≤ 5; omega⟩⟩
  · show (0 : Int) + -1 < 0; omega
  · obtain rfl : k = 0 := by simp at hk; omega
    exact ⟨of_decide_eq_true rfl, rfl⟩
theorem tel43 {t w z : Int} (h : HmN t w z) : Tel t w z 4 3 [3, 0, 4] := by
  have ok := hmB_wt h
  have hg := (gap_32 h (B := hmB t w z) fun x hx => hx).2
  have z2 := h.z2
  have w1 := h.w1
  refine ⟨wnBefore_c 5 _ _ ok 4 3 (by decide) (by decide) hg, wnRowX_c 5 _ _ ok 3 4 (by decide) (by decide) (gap_far hg) [3, 0, 4] (wnRow_c 5 _ ok.ok _ 3 4 (by decide) 3 (by decide) (g3_st h) (g3_ne h) [4, 0, 3] (pth34 h) (.inr rfl)), _, ?_, wnShows_c 5 _ ok.ok 3 4 (by decide) (by decide) [3, 0, 4] ⟨fun k hk => ?_, rfl, by show (3 : Nat) ≤ 5; omega⟩⟩
  · show 0 + z + t + -1 < 0; omega
  · have hc : k = 0 ∨ k = 1 ∨ k = 2 := by simp at hk; omega
    rcases hc with rfl | rfl | rfl <;> exact ⟨of_decide_eq_true rfl, rfl⟩
theorem hmLate {t w z : Int} (h : HmN t w z) : Comp Tryz.prog 16 [wnA 5 (hmB t w z), wyA (3, 4, 0)] (.tup [wnA 5 (hmB t w z ++ [(3, 4, 0)]), .int .i64 0]) ∧ Comp Tryz.prog 13 [wnA 5 (hmB t w z ++ [(3, 4, 0)]), natA 4, natA 3] (.tup [.int .i64 1, .int .i64 0]) := by
  refine ⟨wnTold1_c 5 _ (hmB_ok h) (3, 4, 0) ⟨⟨by decide, fun x hx => ?_, fun x hx => ?_, fun x hx => ?_, fun x hx => ?_⟩, by decide, by decide, fun x hx => ?_⟩ (by show (5 : Nat) < 20; omega), wnBefore_c 5 _ _ (hmL_wt h) 4 3 (by decide) (by decide) (gap_32 h fun x hx => List.mem_append_left _ hx).2⟩ <;> (rw [List.mem_singleton] at hx; subst hx; dsimp only; omega)
theorem awB_ok : WnT 2 [(1, 0, -1)] (fun j => if j = 0 then 0 else 1) := by
  have hm : ∀ x ∈ [((1, 0, -1) : Bn)], x = (1, 0, -1) := fun x hx => by simpa using hx
  refine ⟨⟨⟨by decide, fun x hx => ?_, fun x hx => ?_, fun x hx => ?_, fun x hx => ?_⟩, by decide, by decide, fun x hx => ?_⟩, fun x hx => ?_⟩ <;> (obtain rfl := hm x hx)
  · dsimp only; omega
  · dsimp only; omega
  · dsimp only; omega
  · dsimp only; omega
  · dsimp only; omega
  · decide
theorem awB_c : Comp Tryz.prog 13 [wnA 2 [(1, 0, -1)], natA 0, natA 1] (.tup [.int .i64 1, .int .i64 0]) := by
  refine wnBefore_c 2 _ _ awB_ok 0 1 (by decide) (by decide) ?_
  have g1 := gapK_hop (B := [(1, 0, -1)]) (n := 0) (x := (1, 0, -1)) (a := 1) (f := 1) (t := 0) (S := 0) (by simp) rfl rfl (by omega) (by omega) (by decide) (gap_first _ 1 (by omega))
  have g2 := gap_down (by omega) g1
  dsimp only at g2
  omega
def awS : Sn := ⟨2, 0, 1, 3, false, [(0, 1, 1)], false, [(false, [0, 0])], false, [(false, [(false, [(0, 3)]), (false, [(1, 2)])])]⟩
theorem awS_B : SnB awS := ⟨by decide, by decide, by decide, by decide, by decide, by decide⟩
theorem awS_ok : SnOk awS := snE_iff.1 (by decide +kernel)
theorem awS_c : Comp Tryz.prog 10 [snA awS, natA 1] (.tup [.int .i64 2, .int .i64 0]) := by
  have h1 := fTurn_ok awS awS_B 1 awS_ok (by decide) (by decide +kernel)
  have t1 : turnN awS 1 = 2 := by decide +kernel
  rw [t1] at h1
  exact h1
def awT : Td := ⟨false, [(0, 100), (360, 400)], 0, 0, false, [5], true, []⟩
theorem awT_ok : TdOk awT := by
  refine ⟨by decide, by decide, by decide, by decide, by decide, fun w hw => ?_, by decide, by decide, by decide, fun n hn => ?_, fun x hx => (by cases hx), fun i hi => ?_, fun x hx => (by cases hx), fun x hx => (by cases hx)⟩
  · have hm : w = (0, 100) ∨ w = (360, 400) := by simpa [awT] using hw
    rcases hm with rfl | rfl <;> dsimp only <;> omega
  · have hm : n = 5 := by simpa [awT] using hn
    omega
  · have hl : awT.tb.length = 2 := rfl
    obtain rfl : i = 0 := by omega
    decide
theorem tiHeightX_c (s : Td) (ok : TdOk s) (t : Int) (ht : DayT s t) : Comp Tryz.prog 32 [tdA s, .int .i64 t] (.tup [.int .i64 (hgtZ s t), .int .i64 0]) := by
  have ho := tiOpen_c s ok
  have hd := tiDay_c s ok (opG s) t
  rw [inZ_iff.2 ht] at hd
  have hh := (tiHgt_c s ok (opG s) t ht).1
  generalize opG s = G at *
  refine Comp.body (T := tab) (res := [.tmp 4, .tmp 5]) tab_ok [] Tryz.func32 rfl (by kernel_rfl) Tryz.ntmps32 rfl (by simp only [List.length_cons, List.length_nil]; decide) (by simp only [lowL, AV.low, tdL]; rfl) ?_; conv => whnf
  repeat' first | ((with_reducible first | apply XBr.tt | refine XBr.y2 fun h => ?_ | refine XBr.n2 fun h => ?_ | refine XBr.bne (fun h => ?_) fun h => ?_) <;> conv => whnf) | with_reducible apply XBr.not | ((first | refine XCall.ret ho ?_ | refine XCall.ret hd ?_ | refine XCall.ret hh ?_); conv => whnf) | fail
  exact ⟨.low rfl⟩
theorem awT_c : Comp Tryz.prog 32 [tdA awT, .int .i64 91] (.tup [.int .i64 175, .int .i64 0]) := by
  have h := tiHeightX_c awT awT_ok 91 ⟨by decide, by decide⟩
  rwa [show hgtZ awT 91 = 175 by decide +kernel] at h
end GA
end

section
namespace GA
open Go Go.RowKit Go.Proofs
set_option pp.deepTerms true
set_option maxRecDepth 8000
set_option linter.unusedVariables false
set_option linter.unusedSimpArgs false

theorem awake10_c : Comp Tryz.prog 7 [] (.bool true) := by
  have h1 := awB_c
  have h2 := awS_c
  have h3 := awT_c
  refine Comp.bodyW (T := tab) (res := [.tmp 0]) tab_ok [] Tryz.func7 rfl (by kernel_rfl) Tryz.ntmps7 rfl (by simp only [List.length_cons, List.length_nil]; decide) (by rfl) ?_
  refine Walk.step tab_ok [] ?_
  conv => whnf
  repeat' first | ((first | refine XCall.ret h1 ?_ | refine XCall.ret h2 ?_ | refine XCall.ret h3 ?_); conv => whnf) | ((with_reducible first | apply XBr.tt | refine XBr.y1 fun h => ?_ | refine XBr.n1 fun h => ?_ | refine XBr.beq (fun h => ?_) fun h => ?_) <;> conv => whnf) | ((first | refine XHold.a ?_ | (with_reducible refine XGo.go tab_ok [] ?_)); conv => whnf) | fail
  exact ⟨.low rfl⟩
end GA
end

section
namespace GA
structure LitIs (n : Nat) : Prop where
  t : True
abbrev LitIs.val {n : Nat} (_ : LitIs n) : Nat := n
theorem LitIs.mk' (n : Nat) : LitIs n := ⟨trivial⟩
end GA
end

section
namespace GA
open Go Go.RowKit
set_option linter.unusedVariables false
section
variable {P : Program} {N : Nat} {ρ : Option Nat} {H : List Blk} {σ : St} {D : List Nat}
theorem Walk.freezeFlat {c : Code} {Q : Post} (j q i n : Nat) {t t' : TypeId} {nl nl' : Bool} {els els' ys : List AV} (hj : lget H j = some (.grow t nl els)) (hq : (flat els)[q]? = some (.gr i n)) (hi : lget H i = some (.grow t' nl' ys)) (hij : i ≠ j) (hn : ys.length = n)
    (hl : els'.length = els.length) (hc : ∀ y ∈ els', ∃ y0 ∈ els, y.cells.length = y0.cells.length) (h1' : ∀ y ∈ flat els', y.one = true) (hf : flat els' = (flat els).set q (.sl nl' ys))
    (x : Walk P N ρ c Q D σ ((H.set i .dead).set j (.grow t nl els'))) : Walk P N ρ c Q D σ H := by
  constructor
  intro E h β a w s
  rw [lget_eq] at hi hj
  obtain ⟨h', s1, X1, hfz⟩ := s.sr.freeze hi
  have hj1 : (H.set i .dead)[j]? = some (.grow t nl els) := by rw [List.getElem?_set_ne hij]; exact hj
  have hlt := (List.getElem?_eq_some_iff.1 hq).1
  have hne : els ≠ [] := fun e => by subst e; simp [flat] at hlt
  have hle : ∀ (l : List AV), l.length = els.length → l ≠ [] := fun l e0 e => by subst e; exact hne (List.length_eq_zero_iff.1 e0.symm)
  obtain ⟨s2, X2⟩ := s1.modify (β' := β) (w' := w) (x' := .grow t nl els') hj1 (fun _ _ => rfl) (.inr ⟨_, _, rfl, by rw [hl]; exact Nat.le_refl _, fun _ => rfl⟩) s1.env (fun _ _ _ => rfl) (fun b e => .inl (by unfold blkOf; rw [hj1]; exact e)) (fun X => by
    rcases s.sr.blk j _ hj with ⟨_, h0, _⟩ | ⟨_, h0, _⟩ | ⟨h0, b, cap, c, h1, h2, h3, h4, h5, h6, h7, h8, h9, us, h10, h11⟩
    · subst h0; exact absurd rfl hne
    · subst h0; exact absurd rfl hne
    · refine .inr (.inr ⟨h0, b, cap, c, by rw [hl]; exact h1, h2, h3, by rw [hl]; exact h4, h5, h6, h7, fun y hy => ?_, fun y hy => h1' y hy, us, fun k y ek => ?_, fun k y ek => ?_⟩)
      · obtain ⟨y0, hy0, e⟩ := hc y hy
        rw [e]; exact h8 y0 hy0
      · rw [hf] at ek
        by_cases hke : q = k
        · subst hke; exact h10 q _ hq
        · rw [List.getElem?_set_ne hke] at ek; exact h10 k y ek
      · rw [hf] at ek
        by_cases hke : q = k
        · subst hke
          rw [List.getElem?_set_self hlt] at ek; cases ek
          exact gr_frz s.sr hi hn (h11 q _ hq) (X1.trans X) hfz
        · rw [List.getElem?_set_ne hke] at ek; exact (X1.trans X).rep (h11 k y ek))
  exact wpIn_mono (x.o E h' _ a w ⟨s2, fun u r e => let ⟨v, h1, h2⟩ := s.fits u r e; ⟨v, h1, (X1.trans X2).rep h2⟩, s.size, s.df.ext (X1.trans X2)⟩) fun _ _ _ => Conc.ext (X1.trans X2)
end
end GA
end

section
namespace GA
open Go Go.RowKit Go.Proofs
set_option pp.deepTerms true
set_option maxRecDepth 8000
set_option linter.unusedVariables false
set_option linter.unusedSimpArgs false

def hmPr : List AV := [.agg [.int .i64 2, .int .i64 3], .agg [.int .i64 1, .int .i64 2], .agg [.int .i64 4, .int .i64 1], .agg [.int .i64 4, .int .i64 3]]
set_option maxHeartbeats 8000000 in
theorem hmWarn (u1 : Hp) (c1 c2 : List AV) (A n way lst : Int) (l1 : lowL 0 c1 = true) (l2 : lowL 0 c2 = true) (hA : 0 ≤ A ∧ A ≤ 200) (hl : 0 ≤ lst ∧ lst ≤ 2000) (hN : HmN n way (0 - (lst - A) - 1)) :
    Walk Tryz.prog 352 none (tailC 17 (theC Tryz.f3.body)) (XFn Tryz.prog tab [.tmp 6] (.bool true)) [] (stX [(10, .int .i64 way), (11, .int .i64 A), (22, .int .i64 n), (26, .int .i64 lst)]) [hpC u1, .cells c1, .cells c2, .dead, .dead] := by
  have t0 := hN.t0; have t1 := hN.t1; have w1 := hN.w1; have w2 := hN.w2
  have hae := awake10_c
  have x23 := tel23 hN
  have x12 := tel12 hN
  have x41 := tel41 hN
  have x43 := tel43 hN
  have hlt := hmLate hN
  /-
  refine Comp.body (T := tab) (res := [.tmp 6]) tab_ok [] Tryz.func3 rfl (by kernel_rfl) Tryz.ntmps3 rfl (by simp only [List.length_cons, List.length_nil]; decide) (by rfl) ?_; conv => whnf
  -/
  refine Walk.step tab_ok [] ?_
  conv => whnf
  repeat' first | ((first | (with_reducible refine XInt.a ?_) | (first | refine XHold.a ?_ | (with_reducible refine XGo.go tab_ok [] ?_))); conv => whnf) | fail
  refine Walk.loopGKW [(27, .ptr 5 0), (275, .sl false hmPr), (276, .int .i64 4)] ⟨rfl, rfl, rfl, trivial⟩ (fun k : Nat => k ≤ 4) (fun k => [(277, natA k)]) (fun k => [hpC u1, .cells c1, .cells c2, .dead, .dead, .cells (wnC 5 (hmB n way (0 - (lst - A) - 1)))]) (fun k => 4 - k) 0 (Nat.zero_le _) rfl ⟨rfl, trivial⟩ ?_ (fun _ _ => (show (6 : Nat) ≤ 6 from Nat.le_refl 6)) ?_
  · intro k _
    refine ⟨fun z hz => ?_, fun z hz => ?_⟩
    · simp only [List.mem_cons, List.not_mem_nil, or_false] at hz
      rcases hz with rfl | rfl | rfl | rfl | rfl | rfl
      · exact hpC_low _
      · exact lowL_mono (Nat.zero_le _) l1
      · exact lowL_mono (Nat.zero_le _) l2
      · rfl
      · rfl
      · exact wnCL _ _
    · simp only [List.cons_append, List.nil_append, List.mem_cons, List.not_mem_nil, or_false] at hz
      rcases hz with rfl | rfl | rfl | rfl <;> rfl
  intro k hk
  have hc : k = 0 ∨ k = 1 ∨ k = 2 ∨ k = 3 ∨ k = 4 := by omega
  rcases hc with rfl | rfl | rfl | rfl | rfl
  · skip
    obtain ⟨m, hm, hsh⟩ := x23.sh
    refine Walk.step tab_ok [] ?_
    conv => whnf
    repeat' first | ((first | refine XIx.mk (by decide) (show (0 : Int) < 4 by decide) rfl ?_ | refine XCall.ret x23.bf ?_ | refine XCall.ret x23.ro ?_ | refine XCall.ret hsh ?_); conv => whnf) | ((with_reducible first | apply XBr.ff | refine XBr.y fun h => ?_ | refine XBr.n fun h => ?_ | refine XBr.dec (fun h => ?_) fun h => ?_ | refine XBr.y2 fun h => ?_ | refine XBr.n2 fun h => ?_ | refine XBr.bne (fun h => ?_) fun h => ?_ | refine XInt.a ?_) <;> conv => whnf) | ((first | ((with_reducible refine XArr.ptr ?_ ?_ ?_); omega; omega) | (with_reducible refine XGo.go tab_ok [] ?_)); conv => whnf) | fail
    exact XAgainG.go (0 + 1) [_] (by omega) (by omega) rfl ⟨rfl, rfl, rfl, rfl, trivial⟩
  · skip
    obtain ⟨m, hm, hsh⟩ := x12.sh
    refine Walk.step tab_ok [] ?_
    conv => whnf
    repeat' first | ((first | refine XIx.mk (by decide) (show (1 : Int) < 4 by decide) rfl ?_ | refine XCall.ret x12.bf ?_ | refine XCall.ret x12.ro ?_ | refine XCall.ret hsh ?_); conv => whnf) | ((with_reducible first | apply XBr.ff | refine XBr.y fun h => ?_ | refine XBr.n fun h => ?_ | refine XBr.dec (fun h => ?_) fun h => ?_ | refine XBr.y2 fun h => ?_ | refine XBr.n2 fun h => ?_ | refine XBr.bne (fun h => ?_) fun h => ?_ | refine XInt.a ?_) <;> conv => whnf) | ((first | ((with_reducible refine XArr.ptr ?_ ?_ ?_); omega; omega) | (with_reducible refine XGo.go tab_ok [] ?_)); conv => whnf) | fail
    exact XAgainG.go (1 + 1) [_] (by omega) (by omega) rfl ⟨rfl, rfl, rfl, rfl, trivial⟩
  · skip
    obtain ⟨m, hm, hsh⟩ := x41.sh
    refine Walk.step tab_ok [] ?_
    conv => whnf
    repeat' first | ((first | refine XIx.mk (by decide) (show (2 : Int) < 4 by decide) rfl ?_ | refine XCall.ret x41.bf ?_ | refine XCall.ret x41.ro ?_ | refine XCall.ret hsh ?_); conv => whnf) | ((with_reducible first | apply XBr.ff | refine XBr.y fun h => ?_ | refine XBr.n fun h => ?_ | refine XBr.dec (fun h => ?_) fun h => ?_ | refine XBr.y2 fun h => ?_ | refine XBr.n2 fun h => ?_ | refine XBr.bne (fun h => ?_) fun h => ?_ | refine XInt.a ?_) <;> conv => whnf) | ((first | ((with_reducible refine XArr.ptr ?_ ?_ ?_); omega; omega) | (with_reducible refine XGo.go tab_ok [] ?_)); conv => whnf) | fail
    exact XAgainG.go (2 + 1) [_] (by omega) (by omega) rfl ⟨rfl, rfl, rfl, rfl, trivial⟩
  · skip
    obtain ⟨m, hm, hsh⟩ := x43.sh
    refine Walk.step tab_ok [] ?_
    conv => whnf
    repeat' first | ((first | refine XIx.mk (by decide) (show (3 : Int) < 4 by decide) rfl ?_ | refine XCall.ret x43.bf ?_ | refine XCall.ret x43.ro ?_ | refine XCall.ret hsh ?_); conv => whnf) | ((with_reducible first | apply XBr.ff | refine XBr.y fun h => ?_ | refine XBr.n fun h => ?_ | refine XBr.dec (fun h => ?_) fun h => ?_ | refine XBr.y2 fun h => ?_ | refine XBr.n2 fun h => ?_ | refine XBr.bne (fun h => ?_) fun h => ?_ | refine XInt.a ?_) <;> conv => whnf) | ((first | ((with_reducible refine XArr.ptr ?_ ?_ ?_); omega; omega) | (with_reducible refine XGo.go tab_ok [] ?_)); conv => whnf) | fail
    exact XAgainG.go (3 + 1) [_] (by omega) (by omega) rfl ⟨rfl, rfl, rfl, rfl, trivial⟩
  refine Walk.step tab_ok [] ?_
  conv => whnf
  repeat' first | ((first | refine XCall.ret hlt.1 ?_ | refine XCall.ret hlt.2 ?_ | refine XCall.ret hae ?_); conv => whnf) | ((with_reducible first | apply XBr.tt | refine XBr.y fun h => ?_ | refine XBr.n fun h => ?_ | refine XBr.dec (fun h => ?_) fun h => ?_ | refine XBr.y1 fun h => ?_ | refine XBr.n1 fun h => ?_ | refine XBr.beq (fun h => ?_) fun h => ?_) <;> conv => whnf) | ((with_reducible refine XGo.go tab_ok [] ?_); conv => whnf) | fail
  exact ⟨.low rfl⟩
end GA
end

section
namespace GA
open Go Go.RowKit Go.Proofs
set_option pp.deepTerms true
set_option maxRecDepth 8000
set_option linter.unusedVariables false
set_option linter.unusedSimpArgs false

theorem day_201 {s : Td} (ok : TdOk s) (hm : ∀ w ∈ s.tb, w.1 ≤ 200) : dayN s ≤ 201 := by
  have t1 := ok.t1
  have q1 := hm _ (getD_mem (xs := s.tb) (i := s.tb.length - 1) (d := default) (by omega))
  have q2 := (ok.tm _ (getD_mem (xs := s.tb) (i := 0) (d := default) (by omega))).1
  unfold dayN tbN
  omega
set_option maxHeartbeats 8000000 in
theorem hmTurn (u1 : Hp) (s : Td) (hn pn k : Nat) (way L : Int) (h : HmA s hn pn way L k) (hL : L ≤ (tbN s (s.tb.length - 1)).1 - (tbN s 0).1) (hA : 0 ≤ (tbN s 0).1 ∧ (tbN s 0).1 ≤ 200) :
    Walk Tryz.prog 352 none (tailC 9 (theC Tryz.f3.body)) (XFn Tryz.prog tab [.tmp 6] (.bool true)) [] (stX [(7, .ptr 1 0), (8, natA hn), (10, .int .i64 way), (11, .int .i64 (tbN s 0).1), (12, .ptr 2 0)]) [hpC u1, .cells (tdC s), .cells (snC (hmX s hn pn way L k)), .dead, .dead] := by
  have hB := hm_B h
  have hO := hm_ok h
  have hck := fdCheck_c _ hB
  rw [snE_iff.2 hO] at hck
  have w1 := h.w1; have k1 := h.k1; have k4 := h.k4; have l1 := h.l1; have h1 := h.h1
  have hae := awake10_c
  have hal : allN (hmX s hn pn way L k) = 2 ^ k - 1 := hm_all
  have hp1 : 2 ^ 1 ≤ 2 ^ k := Nat.pow_le_pow_right (by omega) k1
  have hp4 : 2 ^ k ≤ 2 ^ 4 := Nat.pow_le_pow_right (by omega) k4
  have htn := fTurn_ok _ hB (2 ^ k - 1) hO (by omega) (by omega)
  have hlen : ((hmTrs s L k).map trA).length = k := by rw [List.length_map, hmTrs_len]
  have hsh : (1 : Int) * 2 ^ (min ((((hmTrs s L k).map trA).length : Nat) : Int).toNat IntKind.i64.bits) = ((2 ^ k : Nat) : Int) := by
    rw [hlen, Int.toNat_natCast, Nat.min_eq_left (by show k ≤ 64; omega)]
    push_cast
    omega
  obtain ⟨N2, hN2⟩ : ∃ N2 : Nat, N2 = 2 ^ k := ⟨_, rfl⟩
  rw [← hN2] at hp1 hp4 htn hsh hal
  have hN21 : (N2 : Int) - 1 = ((N2 - 1 : Nat) : Int) := by omega
  have hle : (((hmTrs s L k).map trA).length : Int) = k := by rw [hlen]
  obtain ⟨A, hAe⟩ : ∃ A : Int, A = (tbN s 0).1 := ⟨_, rfl⟩
  rw [← hAe] at hA hL ⊢
  by_cases ht : turnN (hmX s hn pn way L k) (N2 - 1) = -1
  · rw [if_pos ht, if_pos ht] at htn
    /-
    refine Comp.body (T := tab) (res := [.tmp 6]) tab_ok [] Tryz.func3 rfl (by kernel_rfl) Tryz.ntmps3 rfl (by simp only [List.length_cons, List.length_nil]; decide) (by rfl) ?_; conv => whnf
    -/
    refine Walk.step tab_ok [] ?_
    conv => whnf
    repeat' first | ((first | refine XCall.ret hck ?_ | refine XCall.ret htn ?_); conv => whnf) | (refine XInt.to hsh ?_) | (refine XInt.to hN21 ?_) | ((refine XCall.ret hae ?_); conv => whnf) | ((with_reducible first | apply XBr.tt | refine XBr.y1 fun h => ?_ | refine XBr.n1 fun h => ?_ | refine XBr.beq (fun h => ?_) fun h => ?_ | refine XBr.y2 fun h => ?_ | refine XBr.n2 fun h => ?_ | refine XBr.bne (fun h => ?_) fun h => ?_ | refine XInt.a ?_ | apply Chk.go | apply ChkA.go | apply ChkF.go | apply ChkB.go | apply XNext.mk) <;> conv => whnf) | (refine XHold.a ?_; conv => whnf) | (with_reducible first | apply XAnd.mk | exact trivial) | (exact XSame.mk rfl rfl) | (apply Walk.drawN (id := 33) tab_ok mixed_ok [] [] (hsU _) [_, _, _, _, _, _, _, _, _, _, _, _] (lex_of (by kernel_rfl)) rfl) | ((with_reducible refine XGo.go tab_ok [] ?_); conv => whnf) | fail
    exact XOut.bool rfl
  rw [if_neg ht, if_neg ht] at htn
  obtain ⟨n, hn1, hn2, hday, hat⟩ := hm_home h rfl (by rw [← hAe]; exact hL) (by rw [hal]; exact ht)
  rw [hal] at hn1
  rw [hn1] at htn
  rw [← hAe] at hday hat
  have hatc := tiAt_c s h.ok (A + (n : Int) + way) hn hday (by omega)
  rw [hat] at hatc
  obtain ⟨i, hi1, hi2, hi3⟩ := sps_at hday hat
  have hti := tiTurn_c s h.ok hn (by omega) (A + (n : Int) + way) hday i hi1 hi2
  have hord := (rnL_ok (dryF s hn) (tbN s 0).1 (dayN s)).1.ord _ (getD_mem (xs := spsT s hn) (d := default) hi1)
  have hd201 := day_201 h.ok h.m
  generalize ((spsT s hn).getD i default) = x at *
  rw [← hAe] at hord
  have hN : HmN (n : Int) way (0 - (x.2 - A) - 1) := ⟨by omega, by omega, by omega, by omega, by omega, by omega⟩
  have hlx : (hmX s hn pn way L k).last = L := rfl
  have hrest := hmWarn u1 (tdC s) (snC (hmX s hn pn way L k)) A n way x.2 (tdCL s) (snCL _) hA ⟨by omega, by omega⟩ hN
  clear hN hord hd201 hi1 hi2 hal hp1 ht hn1 hat hday hB hO hae
  refine Walk.step tab_ok [] ?_
  conv => whnf
  repeat' first | ((first | refine XCall.ret hck ?_ | refine XCall.ret htn ?_ | refine XCall.ret hatc ?_); conv => whnf) | (refine XInt.to hsh ?_) | (refine XInt.to hN21 ?_) | ((with_reducible first | apply XBr.ff | refine XBr.y fun h => ?_ | refine XBr.n fun h => ?_ | refine XBr.dec (fun h => ?_) fun h => ?_ | refine XBr.y2 fun h => ?_ | refine XBr.n2 fun h => ?_ | refine XBr.bne (fun h => ?_) fun h => ?_ | refine XInt.a ?_ | apply Chk.go | apply ChkA.go | apply ChkF.go | apply ChkB.go | apply XNext.mk) <;> conv => whnf) | (refine XHold.a ?_; conv => whnf) | (with_reducible first | apply XAnd.mk | exact trivial) | (exact XSame.mk rfl rfl) | (apply Walk.drawN (id := 33) tab_ok mixed_ok [] [] (hsU _) [_, _, _, _, _, _, _, _, _, _, _, _] (lex_of (by kernel_rfl)) rfl) | ((with_reducible refine XGo.go tab_ok [] ?_); conv => whnf) | fail
  refine XCall.ret hti ?_
  conv => whnf
  refine XGo.go tab_ok [] ?_
  conv => whnf
  repeat' first
    | ((with_reducible apply XBr.tt); conv => whnf)
    | ((with_reducible apply XBr.ff); conv => whnf)
    | ((with_reducible apply XBr.dec) <;> (intro h; first | (exfalso; omega) | (conv => whnf)))
    | ((with_reducible apply XBr.bne) <;> (intro h; first | (exfalso; omega) | (conv => whnf)))
  refine XGo.go tab_ok [] ?_
  conv => whnf
  refine XBr.no (decide_eq_false (by omega)) ?_
  refine XGo.go tab_ok [] ?_
  conv => whnf
  exact XGo.at [(10, .int .i64 way), (11, .int .i64 A), (22, .int .i64 n), (26, .int .i64 x.2)] ⟨rfl, rfl, rfl, rfl, trivial⟩ hrest
end GA
end

section
namespace GA
open Go Go.RowKit Go.Proofs
set_option pp.deepTerms true
set_option maxRecDepth 8000
set_option linter.unusedVariables false
set_option linter.unusedSimpArgs false

theorem XCall.argsH {P : Program} {f : FuncId} {rs : List AV} {k : AV → List Blk → Prop} {H : List Blk} (rs' : List AV) (h : rs' = rs) (x : XCall P f rs' H k) : XCall P f rs H k := h ▸ x
theorem XCall.heapH {P : Program} {f : FuncId} {rs : List AV} {k : AV → List Blk → Prop} {H : List Blk} (H' : List Blk) (h : H' = H) (x : XCall P f rs H' k) : XCall P f rs H k := h ▸ x
theorem Walk.freezeRw {P : Program} {N : Nat} {ρ : Option Nat} {c : Code} {Q : Post} {D : List Nat} {σ : St} {H : List Blk} (j i n : Nat) {t t' : TypeId} {nl nl' : Bool} {rows : List Rw} {ys : List Int} (hj : lget H j = some (.grow t nl (rows.map rwA ++ [.gr i n]))) (hi : lget H i = some (.grow t' nl' (ints ys))) (hij : i ≠ j) (hn : ys.length = n)
    (x : Walk P N ρ c Q D σ ((H.set i .dead).set j (.grow t nl ((rows ++ [((nl', ys) : Rw)]).map rwA)))) : Walk P N ρ c Q D σ H := by
  have o1 : ∀ x ∈ rows.map rwA ++ [AV.gr i n], x.one = true := fun x hx => by
    rcases List.mem_append.1 hx with hx | hx
    · obtain ⟨r, -, rfl⟩ := List.mem_map.1 hx; rfl
    · rw [List.mem_singleton] at hx; subst hx; rfl
  have o2 : ∀ x ∈ (rows ++ [((nl', ys) : Rw)]).map rwA, x.one = true := fun x hx => by
    obtain ⟨r, -, rfl⟩ := List.mem_map.1 hx; rfl
  have hll : (rows.map rwA).length = rows.length := List.length_map _
  refine Walk.freezeFlat j rows.length i n (els' := (rows ++ [((nl', ys) : Rw)]).map rwA) hj ?_ hi hij (by rw [ints_len]; exact hn) (by simp) (fun y hy => ?_) ?_ ?_ x
  · rw [flat_one o1, List.getElem?_append_right (by omega), hll, Nat.sub_self]; rfl
  · obtain ⟨r, -, rfl⟩ := List.mem_map.1 hy
    exact ⟨.gr i n, List.mem_append_right _ (List.mem_singleton.2 rfl), rfl⟩
  · rw [flat_one o2]; exact o2
  · rw [flat_one o2, flat_one o1, List.set_append_right _ _ (by omega), hll, Nat.sub_self, List.map_append]; rfl
set_option maxHeartbeats 8000000 in
theorem topHome_c (n1 : Bool) (xs : List Int) (p q : Int) (hx : xs.length < 9223372036854775808) (hp : 0 ≤ p ∧ p ≤ 255) (hq : 0 ≤ q ∧ q ≤ 255) :
    Comp Tryz.prog 3 [.sl n1 (bytes xs), .int .u8 p, .int .u8 q] (.bool true) := by
  have hmk := tideMade_c (hp0 n1 xs) (hp0_ok hx)
  have hae := awake10_c
  refine Comp.bodyW (T := tab) (res := [.tmp 6]) tab_ok [] Tryz.func3 rfl (by kernel_rfl) Tryz.ntmps3 rfl (by simp only [List.length_cons, List.length_nil]; decide) (by simp only [lowL, AV.low, lowBy]; rfl) ?_
  refine Walk.step tab_ok [] ?_
  conv => whnf
  repeat' first | (refine XCall.inl (T := tab) (res := [.tmp 2]) tab_ok [5] Tryz.func5 rfl (by kernel_rfl) Tryz.ntmps5 rfl (by simp only [List.length_append, List.length_cons, List.length_nil]; decide) ?_; conv => whnf) | ((with_reducible refine XGo.go tab_ok [] ?_); conv => whnf) | fail
  refine XCall.hpE (j := 0) hmk rfl ?_
  rintro r0 u1 ⟨s0, rfl, md, u1o⟩
  conv => whnf
  have w1 := md.w1; have w2 := md.w2; have w0 := md.ok.w2; have f4 := md.f4; have f1 := md.ok.f1; have t1 := md.ok.t1; have t4 := md.t4
  obtain ⟨s, hs⟩ : ∃ s : Td, s = wnd s0 s0.lo (min s0.hi (s0.lo + 4 - 1)) := ⟨_, rfl⟩
  have ok : TdOk s := by rw [hs]; exact wnd_ok md.ok (by omega) (by omega) (by omega)
  have hck := tiCheck_c s ok
  have hsl : s.lo = s0.lo := by rw [hs]; rfl
  have hsh : s.hi = min s0.hi (s0.lo + 4 - 1) := by rw [hs]; rfl
  have hsf : s.fl = s0.fl := by rw [hs]; rfl
  have hst : s.tb = s0.tb := by rw [hs]; rfl
  have hm : ∀ w ∈ s.tb, w.1 ≤ 200 := by rw [hst]; exact md.m
  repeat' first | ((first | ((refine XCall.argsH [tdA s] (by rw [hs]; rfl) ?_); (refine XCall.heapH [hpC u1, .cells (tdC s)] (by rw [hs]; rfl) ?_); (refine XCall.ret hck ?_)) | (refine XCall.ret hae ?_)); conv => whnf) | ((with_reducible first | apply XBr.ff | refine XBr.y fun h => ?_ | refine XBr.n fun h => ?_ | refine XBr.dec (fun h => ?_) fun h => ?_ | refine XBr.y2 fun h => ?_ | refine XBr.n2 fun h => ?_ | refine XBr.bne (fun h => ?_) fun h => ?_ | refine XInt.a ?_) <;> conv => whnf) | ((with_reducible refine XGo.go tab_ok [] ?_); conv => whnf) | fail
  all_goals first | exact XOut.bool rfl | exact ⟨.low rfl⟩ | skip
  rw [← hsf] at f4 f1
  rw [← hst] at t1 t4
  have hw3 : s.hi ≤ s.lo + 3 := by omega
  have hlo8 : -8 ≤ s.lo := by omega
  have hhi8 : s.hi ≤ 8 := by omega
  clear hck hs hsl hsh hsf hst w0 w1 w2 md u1o hmk
  have e2 : ((ints s.fl).length : Int) = s.fl.length := by rw [ints_len]
  have e3 : ((s.tb.map sgA).length : Int) = s.tb.length := by rw [List.length_map]
  have hf2 : 2 ≤ s.fl.length := by omega
  obtain ⟨hn, hhn, hhl⟩ : ∃ hn : Nat, p.tmod ((ints s.fl).length : Int) = hn ∧ hn < s.fl.length := by
    have h1 := Int.tmod_eq_emod_of_nonneg (a := p) (b := ((ints s.fl).length : Int)) hp.1
    have h2 := Int.emod_nonneg p (show ((ints s.fl).length : Int) ≠ 0 by omega)
    have h3 := Int.emod_lt_of_pos p (show 0 < ((ints s.fl).length : Int) by omega)
    exact ⟨(p.tmod ((ints s.fl).length : Int)).toNat, by omega, by omega⟩
  obtain ⟨pn, hpn, hpl, hpne⟩ : ∃ pn : Nat, ((hn : Int) + 1).tmod ((ints s.fl).length : Int) = pn ∧ pn < s.fl.length ∧ pn ≠ hn := by
    have h1 := Int.tmod_eq_emod_of_nonneg (a := (hn : Int) + 1) (b := ((ints s.fl).length : Int)) (by omega)
    by_cases hc : hn + 1 < s.fl.length
    · have h2 := Int.emod_eq_of_lt (a := (hn : Int) + 1) (b := ((ints s.fl).length : Int)) (by omega) (by omega)
      exact ⟨hn + 1, by omega, by omega, by omega⟩
    · have h2 : (hn : Int) + 1 = ((ints s.fl).length : Int) := by omega
      have h3 := Int.emod_self (a := ((ints s.fl).length : Int))
      rw [← h2] at h3
      exact ⟨0, by rw [h1, ← h2, h3]; rfl, by omega, by omega⟩
  obtain ⟨way, hwy, hw1, hw2⟩ : ∃ way : Int, 1 + q.tmod 20 = way ∧ 1 ≤ way ∧ way ≤ 20 := by
    have h1 := Int.tmod_eq_emod_of_nonneg (a := q) (b := 20) hq.1
    exact ⟨_, rfl, by omega, by omega⟩
  have hq20 : 0 ≤ q.tmod 20 ∧ q.tmod 20 ≤ 19 := by omega
  have hne0 : ((ints s.fl).length : Int) ≠ 0 := by omega
  obtain ⟨A, hA, hA0, hA2⟩ : ∃ A : Int, (s.tb.getD (Int.toNat 0) default).1 = A ∧ 0 ≤ A ∧ A ≤ 200 := ⟨_, rfl, (ok.tm _ (getD_mem (xs := s.tb) (i := 0) (d := default) (by omega))).1.1, hm _ (getD_mem (xs := s.tb) (i := 0) (d := default) (by omega))⟩
  obtain ⟨Z, hZ, hZ2⟩ : ∃ Z : Int, (s.tb.getD (((s.tb.map sgA).length : Int) - 1).toNat default).1 = Z ∧ Z ≤ 200 := ⟨_, rfl, hm _ (getD_mem (xs := s.tb) (d := default) (by omega))⟩
  have hAt : (tbN s 0).1 = A := hA
  have hZt : (tbN s (s.tb.length - 1)).1 = Z := by rw [← hZ, show (((s.tb.map sgA).length : Int) - 1).toNat = s.tb.length - 1 by omega]; rfl
  have hAZ : A + 1 ≤ Z := by
    have gen : ∀ k, k + 1 < s.tb.length → (tbN s 0).1 + 1 ≤ (tbN s (k + 1)).1 := by
      intro k
      induction k with
      | zero => intro h; have := ok.or 0 h; omega
      | succ k ih => intro h; have := ih (by omega); have := ok.or (k + 1) h; omega
    have := gen (s.tb.length - 2) (by omega)
    rw [show s.tb.length - 2 + 1 = s.tb.length - 1 by omega] at this
    omega
  have hZA : (s.tb.getD (((s.tb.map sgA).length : Int) - 1).toNat default).1 - (s.tb.getD (Int.toNat 0) default).1 = Z - A := by rw [hA, hZ]
  repeat' first | ((refine XHold.mk hne0 ?_); conv => whnf) | (refine XInt.to hwy ?_) | (refine XInt.to hZA ?_) | ((first | (with_reducible first | refine XInt.a ?_ | apply Chk.go | apply ChkA.go | apply ChkF.go | apply ChkB.go | apply XNext.mk) | (first | refine XHold.a ?_ | refine XIx.b ?_)); conv => whnf) | (with_reducible first | apply XAnd.mk | exact trivial) | (exact XSame.mk rfl rfl) | (apply Walk.drawN (id := 8) tab_ok mixed_ok [] [23, 24] (hsC [_, _, _]) [_, _, _, _, _, _, _, _, _, _, _, _, _, _, _, _, _, _, _, _, _, _, _, _, _] (lex_of (by kernel_rfl)) rfl) | ((with_reducible refine XGo.go tab_ok [] ?_); conv => whnf) | fail
  obtain ⟨L, hL, hL1, hL2, hL3⟩ : ∃ L : Int, min 60 (Z - A) = L ∧ 1 ≤ L ∧ L ≤ 60 ∧ L ≤ Z - A := ⟨_, rfl, by omega, by omega, by omega⟩
  rw [hA, hhn, hpn, hL, e2]
  refine Walk.nilcell 2 5 26 rfl rfl ?_
  refine Walk.nilcell 2 6 46 rfl rfl ?_
  refine Walk.heapX [hpC u1, .cells (tdC s), .cells [.int .i64 s.fl.length, natA hn, natA pn, .int .i64 L, .sl false [wyA (hn, pn, way)], .gr 3 0, .gr 4 0], .grow 26 true [], .grow 46 true []] rfl ?_
  clear hhn hpn hwy hq20 hZA hL
  refine Walk.loopGKW [(7, _), (8, _), (10, _), (11, _), (12, _)] ⟨rfl, rfl, rfl, rfl, rfl, trivial⟩ (fun k : Nat => (k : Int) ≤ s.hi - s.lo + 1) (fun k => [(13, .int .i64 (s.lo + (k : Int)))]) (fun k => [hpC u1, .cells (tdC s), .cells [.int .i64 s.fl.length, natA hn, natA pn, .int .i64 L, .sl false [wyA (hn, pn, way)], .gr 3 k, .gr 4 k], .grow 26 (hmLooks s k).isEmpty ((hmLooks s k).map rwA), .grow 46 (hmTrs s L k).isEmpty ((hmTrs s L k).map trA)]) (fun k => (s.hi - s.lo + 1).toNat - k) 0 (by have := ok.w2; omega) rfl ⟨congrArg (fun z => some (AV.int .i64 z)) (Int.add_zero s.lo).symm, trivial⟩ ?_ (fun _ _ => (show (5 : Nat) ≤ 5 from Nat.le_refl 5)) ?_
  · intro k _
    refine ⟨fun z hz => ?_, fun z hz => ?_⟩
    · simp only [List.mem_cons, List.not_mem_nil, or_false] at hz
      rcases hz with rfl | rfl | rfl | rfl | rfl
      · exact hpC_low _
      · exact tdCL s
      · rfl
      · exact lowRk _
      · exact lowTr _
    · simp only [List.cons_append, List.nil_append, List.mem_cons, List.not_mem_nil, or_false] at hz
      rcases hz with rfl | rfl | rfl | rfl | rfl | rfl <;> rfl
  intro k hk
  refine Walk.step tab_ok [] ?_
  conv => whnf
  by_cases hlt : s.lo + (k : Int) ≤ s.hi
  · have okw : TdOk (wnd s (s.lo + (k : Int)) (s.lo + (k : Int))) := wnd_ok ok (by omega) (by omega) (by omega)
    have hlm : ((hmLooks s k).map rwA).length = k := by rw [List.length_map, hmLooks_len]
    have htm : ((hmTrs s L k).map trA).length = k := by rw [List.length_map, hmTrs_len]
    have hlx := hmLooks_next s k
    have htx := hmTrs_next s L k
    have hrx := fun n => hmRows_next s L (s.lo + (k : Int)) n
    repeat' first | ((with_reducible first | refine XBr.y fun h => ?_ | refine XBr.n fun h => ?_ | refine XBr.dec (fun h => ?_) fun h => ?_) <;> conv => whnf) | ((with_reducible refine XGo.go tab_ok [] ?_); conv => whnf) | fail
    refine Walk.nilcell 6 0 47 rfl rfl ?_
    refine Walk.heapX [hpC u1, .cells (tdC s), .cells [.int .i64 s.fl.length, natA hn, natA pn, .int .i64 L, .sl false [wyA (hn, pn, way)], .gr 3 k, .gr 4 k], .grow 26 (hmLooks s k).isEmpty ((hmLooks s k).map rwA), .grow 46 (hmTrs s L k).isEmpty ((hmTrs s L k).map trA), .cells (tdC (wnd s (s.lo + (k : Int)) (s.lo + (k : Int)))), .cells [.gr 7 0], .grow 47 true []] rfl ?_
    rw [e2]
    refine Walk.loopGKW [(7, _), (8, _), (10, _), (11, _), (12, _), (13, _), (14, _), (15, _), (124, _)] ⟨rfl, rfl, rfl, rfl, rfl, rfl, rfl, rfl, rfl, trivial⟩ (fun p : Nat => p ≤ s.fl.length) (fun p => [(125, natA p)]) (fun p => [hpC u1, .cells (tdC s), .cells [.int .i64 s.fl.length, natA hn, natA pn, .int .i64 L, .sl false [wyA (hn, pn, way)], .gr 3 k, .gr 4 k], .grow 26 (hmLooks s k).isEmpty ((hmLooks s k).map rwA), .grow 46 (hmTrs s L k).isEmpty ((hmTrs s L k).map trA), .cells (tdC (wnd s (s.lo + (k : Int)) (s.lo + (k : Int)))), .cells [.gr 7 p], .grow 47 (hmRows s L (s.lo + (k : Int)) p).isEmpty ((hmRows s L (s.lo + (k : Int)) p).map spsA)]) (fun p => s.fl.length - p) 0 (Nat.zero_le _) rfl ⟨rfl, trivial⟩ ?_ (fun _ _ => (show (8 : Nat) ≤ 8 from Nat.le_refl 8)) ?_
    · intro p _
      refine ⟨fun z hz => ?_, fun z hz => ?_⟩
      · simp only [List.mem_cons, List.not_mem_nil, or_false] at hz
        rcases hz with rfl | rfl | rfl | rfl | rfl | rfl | rfl | rfl
        · exact hpC_low _
        · exact tdCL s
        · rfl
        · exact lowRk _
        · exact lowTr _
        · exact tdCL _
        · rfl
        · exact lowSps _
      · simp only [List.cons_append, List.nil_append, List.mem_cons, List.not_mem_nil, or_false] at hz
        rcases hz with rfl | rfl | rfl | rfl | rfl | rfl | rfl | rfl | rfl | rfl <;> rfl
    intro p hpf
    refine Walk.step tab_ok [] ?_
    conv => whnf
    by_cases hltp : p < s.fl.length
    · have hsp : Comp Tryz.prog 8 [tdA (wnd s (s.lo + (k : Int)) (s.lo + (k : Int))), natA p, .int .i64 0] (.tup [.sl (spsT (wnd s (s.lo + (k : Int)) (s.lo + (k : Int))) p).isEmpty ((spsT (wnd s (s.lo + (k : Int)) (s.lo + (k : Int))) p).map sgA), .int .i64 0]) := tiSpans_c (wnd s (s.lo + (k : Int)) (s.lo + (k : Int))) okw p hltp
      have hRo : ∀ x ∈ spsT (wnd s (s.lo + (k : Int)) (s.lo + (k : Int))) p, A ≤ x.1 ∧ x.1 ≤ x.2 ∧ x.2 < A + 1500 := fun x hx => by
        have h1 := (rnL_ok (dryF (wnd s (s.lo + (k : Int)) (s.lo + (k : Int))) p) (tbN s 0).1 (dayN s)).1.ord x hx
        have h2 := dayN_le ok
        rw [hAt] at h1
        omega
      have hRl := spsT_len okw p
      have hds : dryS s L (s.lo + (k : Int)) p = ((cutR A L (spsT (wnd s (s.lo + (k : Int)) (s.lo + (k : Int))) p)).isEmpty, cutR A L (spsT (wnd s (s.lo + (k : Int)) (s.lo + (k : Int))) p)) := by unfold dryS dryR; rw [hAt]
      have hrp := hrx p
      rw [hds] at hrp
      generalize spsT (wnd s (s.lo + (k : Int)) (s.lo + (k : Int))) p = R at *
      have hrm : ((hmRows s L (s.lo + (k : Int)) p).map spsA).length = p := by rw [List.length_map, hmRows_len]
      repeat' first | (((refine XCall.argsH [tdA (wnd s (s.lo + (k : Int)) (s.lo + (k : Int))), natA p, .int .i64 0] rfl ?_); (refine XCall.ret hsp ?_)); conv => whnf) | ((with_reducible first | refine XBr.y fun h => ?_ | refine XBr.n fun h => ?_ | refine XBr.dec (fun h => ?_) fun h => ?_ | refine XBr.y2 fun h => ?_ | refine XBr.n2 fun h => ?_ | refine XBr.bne (fun h => ?_) fun h => ?_) <;> conv => whnf) | ((with_reducible refine XGo.go tab_ok [] ?_); conv => whnf) | fail
      refine Walk.nilgr 19 25 rfl ?_
      refine Walk.thenFreeze 19 8 (cutR A L R).length ?_
      refine Walk.loopGKW [(7, _), (8, _), (10, _), (11, _), (12, _), (13, _), (14, _), (15, _), (124, _), (125, _), (136, _), (137, _)] ⟨rfl, rfl, rfl, rfl, rfl, rfl, rfl, rfl, rfl, rfl, rfl, rfl, trivial⟩ (fun i : Nat => i ≤ R.length) (fun i => [(19, .gr 8 (cutR A L (R.take i)).length), (138, natA i)]) (fun i => [hpC u1, .cells (tdC s), .cells [.int .i64 s.fl.length, natA hn, natA pn, .int .i64 L, .sl false [wyA (hn, pn, way)], .gr 3 k, .gr 4 k], .grow 26 (hmLooks s k).isEmpty ((hmLooks s k).map rwA), .grow 46 (hmTrs s L k).isEmpty ((hmTrs s L k).map trA), .cells (tdC (wnd s (s.lo + (k : Int)) (s.lo + (k : Int)))), .cells [.gr 7 p], .grow 47 (hmRows s L (s.lo + (k : Int)) p).isEmpty ((hmRows s L (s.lo + (k : Int)) p).map spsA), .grow 25 (cutR A L (R.take i)).isEmpty ((cutR A L (R.take i)).map sgA)]) (fun i => R.length - i) 0 (Nat.zero_le _) rfl ⟨rfl, rfl, trivial⟩ ?_ (fun _ _ => (show (9 : Nat) ≤ 9 from Nat.le_refl 9)) ?_
      · intro i _
        refine ⟨fun z hz => ?_, fun z hz => ?_⟩
        · simp only [List.mem_cons, List.not_mem_nil, or_false] at hz
          rcases hz with rfl | rfl | rfl | rfl | rfl | rfl | rfl | rfl | rfl
          · exact hpC_low _
          · exact tdCL s
          · rfl
          · exact lowRk _
          · exact lowTr _
          · exact tdCL _
          · rfl
          · exact lowSps _
          · exact lowSg _
        · simp only [List.cons_append, List.nil_append, List.mem_cons, List.not_mem_nil, or_false] at hz
          rcases hz with rfl | rfl | rfl | rfl | rfl | rfl | rfl | rfl | rfl | rfl | rfl | rfl | rfl | rfl <;> first | rfl | exact lowSg _
      intro i hi
      have e4 : ((R.map sgA).length : Int) = R.length := by rw [List.length_map]
      have hcm : ((cutR A L (R.take i)).map sgA).length = (cutR A L (R.take i)).length := List.length_map _
      have hcl := cutR_len A L (R.take i)
      have htl : (R.take i).length ≤ 2000 := by rw [List.length_take]; omega
      refine Walk.step tab_ok [] ?_
      conv => whnf
      by_cases hlti : i < R.length
      · have hxo := hRo _ (getD_mem (d := default) hlti)
        have hcn := cutR_next A L hlti
        by_cases hc : (R.getD i default).1 - A ≤ L
        · rw [if_pos hc] at hcn
          repeat' first | ((refine XHold.mk ⟨rfl, hcm, by unfold Room; constructor <;> ((try simp) <;> omega)⟩ ?_); conv => whnf) | ((with_reducible first | refine XBr.y fun h => ?_ | refine XBr.n fun h => ?_ | refine XBr.dec (fun h => ?_) fun h => ?_ | refine XInt.a ?_) <;> conv => whnf) | ((first | refine XHold.a ?_ | refine XIx.a ?_ | (with_reducible refine XGo.go tab_ok [] ?_)); conv => whnf) | fail
          refine XAgainG.go (i + 1) [.cells [.int .i64 (R.getD i default).1, .int .i64 (R.getD i default).2]] (by omega) (by omega) ?_ ⟨rfl, rfl, rfl, rfl, rfl, rfl, rfl, rfl, rfl, rfl, rfl, rfl, (by rw [hcn, List.length_append]; rfl), rfl, trivial⟩
          dsimp only
          rw [hcn, isEmpty_app, List.map_append]; rfl
        · rw [if_neg hc, List.append_nil] at hcn
          repeat' first | ((with_reducible first | refine XBr.y fun h => ?_ | refine XBr.n fun h => ?_ | refine XBr.dec (fun h => ?_) fun h => ?_ | refine XInt.a ?_) <;> conv => whnf) | ((first | refine XIx.a ?_ | (with_reducible refine XGo.go tab_ok [] ?_)); conv => whnf) | fail
          refine XAgainG.go (i + 1) [.cells [.int .i64 (R.getD i default).1, .int .i64 (R.getD i default).2]] (by omega) (by omega) ?_ ⟨rfl, rfl, rfl, rfl, rfl, rfl, rfl, rfl, rfl, rfl, rfl, rfl, (by rw [hcn]; rfl), rfl, trivial⟩
          rw [hcn]; rfl
      obtain rfl : i = R.length := by omega
      rw [List.take_length] at hcm ⊢
      repeat' first | ((first | refine XFrz.go rfl rfl hcm ?_ | (refine XHold.mk ⟨rfl, hrm, by unfold Room; constructor <;> ((try simp) <;> omega)⟩ ?_)); conv => whnf) | ((with_reducible first | refine XBr.y fun h => ?_ | refine XBr.n fun h => ?_ | refine XBr.dec (fun h => ?_) fun h => ?_ | refine XInt.a ?_) <;> conv => whnf) | ((first | refine XHold.a ?_ | (with_reducible refine XGo.go tab_ok [] ?_)); conv => whnf) | fail
      refine XAgainG.go (p + 1) [.dead] (by omega) (by omega) ?_ ⟨rfl, rfl, rfl, rfl, rfl, rfl, rfl, rfl, rfl, rfl, trivial⟩
      dsimp only
      rw [hrp, isEmpty_app, List.map_append]; rfl
    obtain rfl : p = s.fl.length := by omega
    have hrm : ((hmRows s L (s.lo + (k : Int)) s.fl.length).map spsA).length = s.fl.length := by rw [List.length_map, hmRows_len]
    repeat' first | ((with_reducible first | refine XBr.y fun h => ?_ | refine XBr.n fun h => ?_ | refine XBr.dec (fun h => ?_) fun h => ?_) <;> conv => whnf) | ((with_reducible refine XGo.go tab_ok [] ?_); conv => whnf) | fail
    refine Walk.freezeCell 6 0 7 s.fl.length rfl rfl rfl hrm ?_
    refine Walk.place ?_
    apply Walk.drawX tab_ok mixed_ok [] [4, 10, 12, 14, 16] (fun fl => match fl with
      | [a, m, b, x, y] => [hpC u1, .cells (tdC s), .cells [.int .i64 s.fl.length, natA hn, natA pn, .int .i64 L, .sl false [wyA (hn, pn, way)], (bif y then .gr 3 (k + 1) else .gr 3 k), (bif x then .gr 4 (k + 1) else .gr 4 k)],
          .grow 26 (bif b then ((hmLooks s k).isEmpty && false) else (hmLooks s k).isEmpty) (bif b then (hmLooks s k).map rwA ++ [.gr 8 ((ints s.fl).length : Int).toNat] else (hmLooks s k).map rwA),
          .grow 46 (bif a then ((hmTrs s L k).isEmpty && false) else (hmTrs s L k).isEmpty) (bif a then (hmTrs s L k).map trA ++ [trA (hmTr s L (s.lo + (k : Int)))] else (hmTrs s L k).map trA),
          .cells (tdC (wnd s (s.lo + (k : Int)) (s.lo + (k : Int)))), .cells [.sl (hmRows s L (s.lo + (k : Int)) s.fl.length).isEmpty ((hmRows s L (s.lo + (k : Int)) s.fl.length).map spsA)], .dead,
          (bif m then .grow 3 false (List.replicate ((ints s.fl).length : Int).toNat (.int .i64 0)) else .free)]
      | _ => []) [_, _, _, _, .gr 4 (k + 1), _, _, _, _, _, .gr 8 ((ints s.fl).length : Int).toNat, _, .gr 3 (k + 1), _, _, _, _] (lex_of (by kernel_rfl)) rfl
    · skip
      repeat' first | ((first | (refine XHold.mk ⟨rfl, hlm, by unfold Room; constructor <;> ((try simp) <;> omega)⟩ ?_) | (refine XHold.mk ⟨rfl, htm, by unfold Room; constructor <;> ((try simp) <;> omega)⟩ ?_)); conv => whnf) | ((refine XFree.at 8 rfl ?_); (conv => whnf); exact XSame.mk rfl rfl) | ((with_reducible first | apply Chk.go | apply ChkA.go); conv => whnf) | (refine XHold.a ?_; conv => whnf) | (with_reducible first | apply XAnd.mk | exact trivial) | (exact XSame.mk rfl rfl) | fail
    · skip
      repeat' first | ((first | (refine XHold.mk ⟨rfl, hlm, by unfold Room; constructor <;> ((try simp) <;> omega)⟩ ?_) | (refine XHold.mk ⟨rfl, htm, by unfold Room; constructor <;> ((try simp) <;> omega)⟩ ?_)); conv => whnf) | ((refine XFree.at 8 rfl ?_); (conv => whnf); exact XSame.mk rfl rfl) | ((with_reducible first | apply Chk.go | apply ChkF.go | apply ChkB.go); conv => whnf) | (refine XHold.a ?_; conv => whnf) | (with_reducible first | apply XAnd.mk | exact trivial) | (exact XSame.mk rfl rfl) | fail
    conv => whnf
    have hN : ((ints s.fl).length : Int).toNat = s.fl.length := by omega
    rw [hN]
    refine XGo.mk ?_
    refine Walk.freezeRw 3 8 s.fl.length (rows := hmLooks s k) (ys := List.replicate s.fl.length 0) rfl (by unfold ints; rw [List.map_replicate]; rfl) (by decide) List.length_replicate ?_
    refine Walk.step tab_ok [] ?_
    conv => whnf
    repeat' ((with_reducible refine XInt.a ?_); conv => whnf)
    refine XAgainG.go (k + 1) [.cells (tdC (wnd s (s.lo + (k : Int)) (s.lo + (k : Int)))), .cells [.sl (hmRows s L (s.lo + (k : Int)) s.fl.length).isEmpty ((hmRows s L (s.lo + (k : Int)) s.fl.length).map spsA)], .dead, .dead] (by omega) (by omega) ?_ ⟨rfl, rfl, rfl, rfl, rfl, (congrArg (fun z => some (AV.int .i64 z)) (show s.lo + (k : Int) + 1 = s.lo + ((k + 1 : Nat) : Int) by omega)), trivial⟩
    dsimp only
    rw [hlx, htx, isEmpty_app, isEmpty_app, List.map_append (f := trA)]; rfl
  have hkw : s.hi = s.lo + (k : Int) - 1 := by omega
  have hlm : ((hmLooks s k).map rwA).length = k := by rw [List.length_map, hmLooks_len]
  have htm : ((hmTrs s L k).map trA).length = k := by rw [List.length_map, hmTrs_len]
  have hX : HmA s hn pn way L k := ⟨ok, hf2, f4, ⟨by omega, by omega⟩, ⟨by omega, by omega⟩, fun h => hpne (by omega), ⟨hw1, hw2⟩, ⟨hL1, hL2⟩, by have := ok.w2; omega, by omega, hkw, hm⟩
  refine XGo.go tab_ok [] ?_
  conv => whnf
  refine XBr.no (decide_eq_false hlt) ?_
  refine XGo.go tab_ok [] ?_
  conv => whnf
  refine XGo.mk ?_
  refine Walk.freezeCell 2 5 3 k rfl rfl rfl hlm ?_
  refine Walk.freezeCell 2 6 4 k rfl rfl rfl htm ?_
  refine Walk.heapX [hpC u1, .cells (tdC s), .cells (snC (hmX s hn pn way L k)), .dead, .dead] rfl ?_
  have hr := hmTurn u1 s hn pn k way L hX (by rw [hAt, hZt]; exact hL3) (by rw [hAt]; exact ⟨hA0, hA2⟩)
  rw [hAt] at hr
  exact Walk.weak [(7, .ptr 1 0), (8, natA hn), (10, .int .i64 way), (11, .int .i64 A), (12, .ptr 2 0)] ⟨rfl, rfl, rfl, rfl, rfl, trivial⟩ hr
end GA
end
