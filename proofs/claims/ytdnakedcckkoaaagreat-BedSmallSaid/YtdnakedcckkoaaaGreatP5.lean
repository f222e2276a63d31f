/- Part 5 of a proof: D4, D5, D6, D7, D8, D76, D77, D78, D79, D80, D9, D10, D11, D12, D13, D19, D30. -/
import Derived.Test.YtdnakedcckkoaaaGreatP4
set_option linter.unusedVariables false
set_option linter.unusedSimpArgs false
set_option maxRecDepth 8000
section
namespace GA
open Go Go.RowKit Go.Proofs
def plMo (b : Bd) (plan : List Int) (j i : Nat) : Mo := if i < j then { moB b i with r := plan.getD i 0 } else moB b i
def zF (b : Bd) (plan : List Int) : Bd := { b with nlm := false, months := vecF b.months.length (plMo b plan b.months.length) }
theorem zaQ {b c : Bd} (h : b.surveys = c.surveys) : ∀ j, esS b j = esS c j
 | 0 => rfl
 | j + 1 => by
   have hr : ∀ j k, rowS b j k = rowS c j k := fun j k => by unfold rowS; rw [h]
   show mput _ _ (esS b j) = mput _ _ (esS c j)
   rw [zaQ h j, h, hr]
theorem dsk_congr {b c : Bd} (h : b.surveys = c.surveys) : keyS b = keyS c /\ vW b = vW c := by
 have hk : keyS b = keyS c := by unfold keyS; rw [zaQ h, h]
 refine ⟨hk, ?_⟩
 unfold vW
 rw [hk]
 have : rowT b = rowT c := by funext k; unfold rowT rowS; rw [h]
 rw [this]
theorem z7 (b : Bd) (plan : List Int) : (zF b plan).months.length = b.months.length := zj _ _
theorem jb {b : Bd} {plan : List Int} {i : Nat} (hi : i < b.months.length) : moB (zF b plan) i = { moB b i with r := plan.getD i 0 } := by
 unfold moB
 show (vecF b.months.length _).getD i default = _
 rw [yq _ hi]; unfold plMo; rw [if_pos hi]; rfl
theorem gq {b : Bd} (ok : BdOk b) {plan : List Int} (hp : ∀ x ∈ plan, 0 <= x /\ x <= b.room) (hl : plan.length = b.months.length) : BdOk (zF b plan) := by
 refine ⟨⟨ok.r1, ok.r2, ?_, ?_, ok.f1, ok.f2, ok.u1, ok.u2, fun m hm => ?_⟩, ok.s1, fun s hs => ?_⟩
 ·rw [z7]; exact ok.m1
 ·rw [z7]; exact ok.m2
 ·obtain ⟨i, hi, rfl⟩ := yQ.1 hm
  unfold plMo
  rw [if_pos hi]
  have h1 := ok.mo' hi
  have h2 := hp _ (zB (xs := plan) (d := 0) (i := i) (by omega))
  exact ⟨h1.1, h1.2.1, h2.1, h2.2, h1.2.2.2.2⟩
 ·rw [z7]; exact ok.su s hs
def ym (b : Bd) (plan : List Int) : Int := if bedE b ≠ 0 then bedE b else if (plan.length : Int) ≠ b.months.length then 2 else if plan.all (fun x => inZ x 0 b.room) = false then 3 else 0
theorem vq {b : Bd} {plan : List Int} : ym b plan = 0 ↔ BdOk b /\ plan.length = b.months.length /\ ∀ x ∈ plan, 0 <= x /\ x <= b.room := by
 unfold ym
 constructor
 ·intro h
  split at h
  ·rename_i h1; exact absurd h h1
  ·split at h; · cases h
   split at h; · cases h
   rename_i h1 h2 h3
   rw [Bool.not_eq_false, List.all_eq_true] at h3
   exact ⟨(zz b).1 (by omega), by omega, fun x hx => zx.1 (h3 x hx)⟩
 ·rintro ⟨h1, h2, h3⟩
  rw [if_neg (fun h => h ((zz b).2 h1)), if_neg (by omega), if_neg (by rw [List.all_eq_true.2 fun x hx => zx.2 (h3 x hx)]; simp)]
theorem zN.moR {n e' o w : Nat} {k : List AV -> Prop} {N : Nat} {F : Nat -> Mo} {v : Int} (e : Nat) (he : e = e') (h1 : n = N) (h2 : e < N) (ho : o = 1) (hw : w = 6)
  (h : k ((vecF N (updV F e { F e with r := v })).map moA)) : zN ((vecF N F).map moA) n e' o w [.int .i64 v] k := by
 subst he; subst h1; subst ho; subst hw
 have hg : ((vecF n F).map moA).getD e default = moA (F e) := by
  rw [List.getD_eq_getElem?_getD, List.getElem?_map, zO, if_pos h2]; rfl
 refine ⟨by rw [List.length_map, zj], h2, by simp, by rw [hg]; rfl, ?_⟩
 rw [hg]
 show k (((vecF n F).map moA).set e (moA { F e with r := v }))
 rw [<- List.map_set, yF]; exact h
theorem dskS_ren0 (b : Bd) (hm : ∀ s ∈ b.surveys, 0 <= s.m /\ s.m <= 10) : (dskS b).map (Blk.ren (([] : List Blk).length + ·)) = dskS b := by
 have : ∀ x ∈ dskS b, Blk.ren (([] : List Blk).length + ·) x = id x := fun x hx => Blk.ren_low (n := 13) (fun i _ => Nat.zero_add i) (ft b hm x hx)
 rw [List.map_congr_left this, List.map_id]
theorem vM (b : Bd) : b.months = vecF b.months.length (moB b) := by
 apply List.ext_getElem?; intro i
 rw [zO]
 by_cases h : i < b.months.length
 ·rw [if_pos h, List.getElem?_eq_getElem h]; unfold moB; rw [List.getD_eq_getElem?_getD, List.getElem?_eq_getElem h]; rfl
 ·rw [if_neg h, List.getElem?_eq_none (by omega)]
theorem yN.rows {b : Bd} {H : List Blk} (hm : ∀ s ∈ b.surveys, 0 <= s.m /\ s.m <= 10) (h : ∀ k, k <= 10 -> lget H (2 + k) = some (rowB b b.surveys.length k)) : yN Tryz.prog H ((esS b b.surveys.length).map (·.2)) (vW b) := by
 refine gZ _ (fun k => slA (rowT b k.toNat)) _ fun p hp => ?_
 obtain ⟨h1, h2, h3⟩ := zal b hm _ (Nat.le_refl _) p hp
 rw [h3]
 exact Froz.grow (h _ (by omega)) (List.length_map _) (lowI _)
set_option maxHeartbeats 1000000 in
theorem zbf (b : Bd) (ok : BdOk b) (nl : Bool) (plan : List Int) (hl : plan.length = b.months.length) (hp : ∀ x ∈ plan, 0 <= x /\ x <= b.room) : Comp Tryz.prog 222 [bedA b, .sl nl (ints plan)] (.tup [dskA (zF b plan), .int .i64 0]) := by
 have m1 := ok.m1
 have m2 := ok.m2
 have e1 : ((b.months.map moA).length : Int) = b.months.length := by rw [List.length_map]
 have e2 : ((ints plan).length : Int) = b.months.length := by rw [zm]; omega
 have hop := vQ b ((zz b).2 ok) ok.m2 ok.s1 ok.sm
 have hev := qJ nl plan 98 [bedA b] (fun x => inZ x 0 b.room) (by simp only [lowL, bedL]; rfl) (by omega) fun x _ => zS b x
 rw [List.all_eq_true.2 fun x hx => zx.2 (hp x hx)] at hev
 refine Comp.body (T := tab) (res := [.tmp 4, .tmp 5]) zb [] Tryz.func222 rfl (by kernel_rfl) Tryz.ntmps222 rfl (by simp only [List.length_cons, List.length_nil]; decide) (by simp only [lowL, bedL, AV.low, lowI]; rfl) ?_; conv => whnf
 refine za.give hop ?_
 rw [dskS_ren0 b ok.sm]
 conv => whnf
 repeat' first | ((with_reducible first | apply XBr.tt | refine XBr.y2 fun h => ?_ | refine XBr.n2 fun h => ?_ | refine XBr.bne (fun h => ?_) fun h => ?_) <;> conv => whnf) | with_reducible apply XBr.not | ((first | refine zh.a ?_ | refine za.ret hev ?_ | refine zh.mk (wideMo _) ?_ | refine zh.mk ⟨rfl, by rw [List.length_replicate]⟩ ?_ | refine v7.mk ?_); conv => whnf) | fail
 have hv0 : b.months.map moA = (vecF b.months.length (plMo b plan 0)).map moA := by
  have : vecF b.months.length (plMo b plan 0) = vecF b.months.length (moB b) := zy fun i _ => by unfold plMo; rw [if_neg (by omega)]
  rw [this, <- vM]
 refine Walk.loopK zb [] [(4, _), (5, _), (6, .ptr 1 0), (8, .gr 13 b.months.length), (41, _), (42, .int .i64 b.months.length)] ⟨rfl, rfl, rfl, ?_, rfl, congrArg (fun z => some (AV.int .i64 z)) e2, trivial⟩ (fun j : Nat => j <= b.months.length) (fun j => [(43, natA j)]) (fun j => dskS b ++ [.grow 59 false ((vecF b.months.length (plMo b plan j)).map moA)]) (fun j => b.months.length - j) 0 (Nat.zero_le _) ?_ ⟨rfl, trivial⟩ ?_
 ·show some (AV.gr 13 _) = _
  rw [e1, Int.toNat_natCast]
 ·show dskS b ++ [_] = dskS b ++ [Blk.grow _ false (splice (List.replicate _ _) 0 _)]
  rw [<- hv0]
  have hz : splice (List.replicate (((b.months.map moA).length : Int)).toNat (AV.agg [.int .i64 0, .int .i64 0, .int .i64 0, .int .i64 0, .int .i64 0, .int .i64 0])) 0 ((b.months.map moA).take (((b.months.map moA).length : Int)).toNat) = b.months.map moA := by
   rw [Int.toNat_natCast, List.take_length]
   unfold splice
   simp
  rw [hz]
 intro j hj
 have hpj : j < b.months.length -> vecF b.months.length (plMo b plan (j + 1)) = vecF b.months.length (updV (plMo b plan j) j { plMo b plan j j with r := plan.getD j 0 }) := fun hj => zy fun i hi => by
  unfold updV plMo
  by_cases h : i = j
  ·subst h; rw [if_pos rfl, if_pos (by omega), if_neg (by omega)]
  ·rw [if_neg h]
   by_cases h2 : i < j
   ·rw [if_pos h2, if_pos (by omega)]
   ·rw [if_neg h2, if_neg (by omega)]
 conv => whnf
 repeat' first | ((with_reducible first | refine XBr.y fun h => ?_ | refine XBr.n fun h => ?_ | refine XBr.dec (fun h => ?_) fun h => ?_ | refine XInt.a ?_) <;> conv => whnf) | ((first | refine XIx.a ?_ | refine zh.mk ⟨by simp only [List.length_map, zj], rfl, by omega, by omega⟩ ?_ | refine zN.moR j (by omega) rfl (by omega) rfl rfl ?_); conv => whnf) | fail
 ·refine zk.go (j + 1) (by omega) (by omega) ?_ ⟨rfl, rfl, rfl, rfl, rfl, rfl, rfl, trivial⟩
  rw [hpj (by omega)]; rfl
 ·obtain rfl : j = b.months.length := by omega
  obtain ⟨hk1, hk2⟩ := dsk_congr (b := zF b plan) (c := b) rfl
  refine ⟨Froz.tup (.cons (Froz.ptr rfl (dskOne _) ?_) (.cons (.low rfl) .nil))⟩
  show yN _ _ _ (bedC (zF b plan) ++ [.im (keyS (zF b plan)) (vW (zF b plan))])
  rw [hk1, hk2]
  refine .cons (.low rfl) (.cons (.low rfl) (.cons (.low rfl) (.cons (Froz.grow rfl (by rw [List.length_map]; exact z7 b plan) (yn _)) (.cons (.low (yO _)) (.cons (Froz.mp rfl ?_) .nil)))))
  refine yN.rows ok.sm fun k hk => ?_
  have hkk : k = 0 \/ k = 1 \/ k = 2 \/ k = 3 \/ k = 4 \/ k = 5 \/ k = 6 \/ k = 7 \/ k = 8 \/ k = 9 \/ k = 10 := by omega
  rcases hkk with rfl | rfl | rfl | rfl | rfl | rfl | rfl | rfl | rfl | rfl | rfl <;> rfl
theorem fP (b : Bd) (nl : Bool) (plan : List Int) (hm : b.months.length <= 100000) (hs : b.surveys.length <= 100000) (hl : plan.length <= 100000) (hE : ym b plan ≠ 0) : Comp Tryz.prog 222 [bedA b, .sl nl (ints plan)] (.tup [.nilp, .int .i64 (ym b plan)]) := by
 have e1 : ((b.months.map moA).length : Int) = b.months.length := by rw [List.length_map]
 have e2 : ((ints plan).length : Int) = plan.length := by rw [zm]
 have hev := qJ nl plan 98 [bedA b] (fun x => inZ x 0 b.room) (by simp only [lowL, bedL]; rfl) (by omega) fun x _ => zS b x
 by_cases hb : bedE b = 0
 ·have hop := kv b ((zz b).1 hb)
  unfold ym at hE ⊢
  rw [if_neg (fun h => h hb)] at hE ⊢
  generalize plan.all (fun x => inZ x 0 b.room) = r at hev hE
  refine Comp.body (T := tab) (res := [.tmp 4, .tmp 5]) zb [] Tryz.func222 rfl (by kernel_rfl) Tryz.ntmps222 rfl (by simp only [List.length_cons, List.length_nil]; decide) (by simp only [lowL, bedL, AV.low, lowI]; rfl) ?_; conv => whnf
  repeat' first | ((with_reducible first | refine XBr.y2 fun h => ?_ | refine XBr.n2 fun h => ?_ | refine XBr.bne (fun h => ?_) fun h => ?_) <;> conv => whnf) | with_reducible apply XBr.not | ((first | refine zh.a ?_ | refine za.ret hop ?_ | refine za.ret hev ?_); conv => whnf) | ((with_reducible refine XBr.mk' (fun h => ?_) fun h => ?_) <;> conv => whnf) | fail
  ·rw [e1, e2] at h
   rw [if_pos h]; exact ⟨.low rfl⟩
  ·rw [e1, e2] at *
   exfalso; simp [*] at hE
  ·rw [e1, e2] at *
   rw [if_neg (by simp [*]), if_pos h]; exact ⟨.low rfl⟩
 ·have hop := kd b hm hs hb
  have hE2 : ym b plan = bedE b := by unfold ym; rw [if_pos hb]
  rw [hE2]
  generalize bedE b = e at hop hb
  refine Comp.body (T := tab) (res := [.tmp 4, .tmp 5]) zb [] Tryz.func222 rfl (by kernel_rfl) Tryz.ntmps222 rfl (by simp only [List.length_cons, List.length_nil]; decide) (by simp only [lowL, bedL, AV.low, lowI]; rfl) ?_; conv => whnf
  repeat' first | ((with_reducible first | refine XBr.y2 fun h => ?_ | refine XBr.n2 fun h => ?_ | refine XBr.bne (fun h => ?_) fun h => ?_) <;> conv => whnf) | ((refine za.ret hop ?_); conv => whnf) | fail
  exact ⟨.low rfl⟩
def endW (b : Bd) : Nat -> Nat -> Int
 | 0, n => n
 | k + 1, n => if lieR b (b.months.length - (k + 1)) n - (moB b (b.months.length - (k + 1))).r < 0 then lieR b (b.months.length - (k + 1)) n - (moB b (b.months.length - (k + 1))).r else endW b k (lieR b (b.months.length - (k + 1)) n - (moB b (b.months.length - (k + 1))).r).toNat
def endR (b : Bd) : Int := endW b b.months.length (zn b).toNat
theorem end_c (b : Bd) (ok : BedOk b) : Comp Tryz.prog 223 [dskA b] (.int .i64 (endR b)) := by
 have m1 := ok.m1
 have m2 := ok.m2
 have r1 := ok.r1
 have r2 := ok.r2
 have e1 : ((b.months.map moA).length : Int) = b.months.length := by rw [List.length_map]
 have hle := zbA b ok.f1 (by have := ok.f2; omega) ok.u1 (by have := ok.u2; omega)
 obtain ⟨a0, ha0⟩ : ∃ a0 : Nat, zn b = a0 := ⟨(zn b).toNat, by unfold zn; omega⟩
 have ha1 : (a0 : Int) <= b.room := by rw [<- ha0]; unfold zn; have := ok.f2; have := ok.u1; omega
 unfold endR
 rw [ha0, Int.toNat_natCast]
 rw [ha0] at hle
 refine Comp.body (T := tab) (res := [.tmp 2]) zb [] Tryz.func223 rfl (by kernel_rfl) Tryz.ntmps223 rfl (by simp only [List.length_cons, List.length_nil]; decide) (by simp only [lowL, dskL]; rfl) ?_; conv => whnf
 repeat' ((refine za.ret hle ?_); conv => whnf)
 refine Walk.loopGK zb [] [(0, _), (15, _), (16, _)] ⟨rfl, rfl, rfl, trivial⟩ (fun q : Nat × Nat => q.1 <= b.months.length /\ (q.2 : Int) <= b.room /\ endW b (b.months.length - q.1) q.2 = endW b b.months.length a0) (fun q => [(3, natA q.2), (17, natA q.1)]) (fun _ => []) (fun q => b.months.length - q.1) (0, a0) ⟨Nat.zero_le _, ha1, rfl⟩ rfl ⟨rfl, rfl, trivial⟩ ?_ (fun _ _ => Nat.le_refl _) ?_
 ·intro q _
  refine ⟨by simp, fun z hz => ?_⟩
  simp only [List.cons_append, List.nil_append, List.mem_cons, List.not_mem_nil, or_false] at hz
  rcases hz with rfl | rfl | rfl | rfl | rfl <;> first | exact dskL b | exact yn _ | rfl
 rintro ⟨m, n⟩ ⟨hm, hn, he⟩
 dsimp only at hm hn he ⊢
 have hgc := fun (h : m < b.months.length) => y9 b m n (moB b m).pl (moB b m).th h (by omega) (by omega) (ok.mo' h).1 (ok.mo' h).2.1 (by omega) (by omega) (by have := ok.mo' h; omega) (by have := ok.mo' h; omega) (by have := ok.mo' h; omega) (by have := ok.mo' h; omega)
 change ∀ h : m < b.months.length, Comp Tryz.prog _ _ (.int .i64 (lieR b m n)) at hgc
 have hlb := fun (h : m < b.months.length) => yp ok (j := m) (n := n) h
 have hmo := fun (h : m < b.months.length) => ok.mo' h
 conv => whnf
 by_cases hlt : m < b.months.length
 ·have hgc := hgc hlt
  have hlb := hlb hlt
  have hmo := hmo hlt
  have hst : endW b (b.months.length - m) n = if lieR b m n - (moB b m).r < 0 then lieR b m n - (moB b m).r else endW b (b.months.length - (m + 1)) (lieR b m n - (moB b m).r).toNat := by
   obtain ⟨k, hk⟩ : ∃ k, b.months.length - m = k + 1 := ⟨b.months.length - m - 1, by omega⟩
   rw [hk, endW, show b.months.length - (k + 1) = m by omega, show b.months.length - (m + 1) = k by omega]
  rw [hst] at he
  repeat' first | ((with_reducible first | refine XBr.y fun h => ?_ | refine XBr.n fun h => ?_ | refine XBr.dec (fun h => ?_) fun h => ?_ | refine XInt.a ?_ | apply Chk.go | apply ChkA.go | apply ChkF.go | apply ChkB.go | apply zw.mk) <;> conv => whnf) | (refine XIx.a ?_; conv => whnf) | (with_reducible first | apply XAnd.mk | exact trivial) | (exact zd.mk rfl rfl) | (apply Walk.drawN (id := 5) zb zg [] [] (hsU _) [_, _, _, _, _, _, _, _, _, _, _, _, _] (by kernel_rfl) rfl) | ((first | refine za.ret (jj (moB b m)) ?_ | refine za.ret hgc ?_ | refine XInt.i64 (show _ <= lieR b m n - (moB b m).r by omega) (show lieR b m n - (moB b m).r <= _ by omega) ?_); conv => whnf) | fail
  ·rename_i h
   have h' : lieR b m n - (moB b m).r < 0 := h
   rw [if_pos h'] at he
   exact XOut.int he
  ·rename_i h
   have h' : ¬ lieR b m n - (moB b m).r < 0 := h
   rw [if_neg h'] at he
   refine zp.go (m + 1, (lieR b m n - (moB b m).r).toNat) [.cells [.int .i64 (moB b m).g, .int .i64 (moB b m).r, .int .i64 (moB b m).pl, .int .i64 (moB b m).ph, .int .i64 (moB b m).tl, .int .i64 (moB b m).th]] ⟨by dsimp only; omega, by dsimp only; omega, he⟩ (by dsimp only; omega) rfl ⟨rfl, rfl, rfl, ?_, rfl, trivial⟩
   exact congrArg (fun z => some (AV.int .i64 z)) (show lieR b m n - (moB b m).r = ((lieR b m n - (moB b m).r).toNat : Int) by omega)
 ·obtain rfl : m = b.months.length := by omega
  rw [Nat.sub_self] at he
  repeat' ((with_reducible first | refine XBr.y fun h => ?_ | refine XBr.n fun h => ?_ | refine XBr.dec (fun h => ?_) fun h => ?_) <;> conv => whnf)
  exact XOut.int he
def j6 (b : Bd) (plan : List Int) (share : Int) : Bool := decide (share <= endR (zF b plan))
def ju (b : Bd) (plan : List Int) (share : Int) : AV := if ym b plan ≠ 0 then .tup [.bool false, .int .i64 (ym b plan)] else if inZ share 0 b.room = false then .tup [.bool false, .int .i64 3] else .tup [.bool (j6 b plan share), .int .i64 0]
theorem zbM (b : Bd) (nl : Bool) (plan : List Int) (share : Int) (hm : b.months.length <= 100000) (hs : b.surveys.length <= 100000) (hl : plan.length <= 100000) : Comp Tryz.prog 128 [bedA b, .sl nl (ints plan), .int .i64 share] (ju b plan share) := by
 unfold ju
 by_cases hE : ym b plan = 0
 ·obtain ⟨ok, h1, h2⟩ := vq.1 hE
  have hp := zbf b ok nl plan h1 h2
  have he := end_c (zF b plan) (gq ok h2 h1).toBedOk
  have ha := zS b share
  rw [if_neg (fun h => h hE)]
  generalize inZ share 0 b.room = r at ha
  refine Comp.body (T := tab) (res := [.tmp 6, .tmp 7]) zb [] Tryz.func128 rfl (by kernel_rfl) Tryz.ntmps128 rfl (by simp only [List.length_cons, List.length_nil]; decide) (by simp only [lowL, bedL, AV.low, lowI]; rfl) ?_; conv => whnf
  repeat' first | ((with_reducible first | refine XBr.y2 fun h => ?_ | refine XBr.n2 fun h => ?_ | refine XBr.bne (fun h => ?_) fun h => ?_) <;> conv => whnf) | with_reducible apply XBr.not | ((first | refine za.ret hp ?_ | refine za.ret ha ?_ | refine za.ret he ?_); conv => whnf) | ((with_reducible refine XBr.mk' (fun h => ?_) fun h => ?_) <;> conv => whnf) | fail
  ·rename_i h
   rw [if_neg (by rw [h]; simp)]; exact ⟨.low rfl⟩
  ·rename_i h
   rw [if_pos h]; exact ⟨.low rfl⟩
 ·have hp := fP b nl plan hm hs hl hE
  rw [if_pos hE]
  generalize ym b plan = e at hp hE
  refine Comp.body (T := tab) (res := [.tmp 6, .tmp 7]) zb [] Tryz.func128 rfl (by kernel_rfl) Tryz.ntmps128 rfl (by simp only [List.length_cons, List.length_nil]; decide) (by simp only [lowL, bedL, AV.low, lowI]; rfl) ?_; conv => whnf
  repeat' first | ((with_reducible first | refine XBr.y2 fun h => ?_ | refine XBr.n2 fun h => ?_ | refine XBr.bne (fun h => ?_) fun h => ?_) <;> conv => whnf) | ((refine za.ret hp ?_); conv => whnf) | fail
  exact ⟨.low rfl⟩
end GA
end
section
namespace GA
open Go Go.RowKit Go.Proofs
abbrev chsA (l : List (Int × Int)) : List AV := l.map prA
def zI (b : Bd) : List (Int × Int) := b.months.map fun m => (m.pl, m.th)
def vC (b : Bd) (plan : List Int) : AV := if ym b plan ≠ 0 then .tup [.sl true [], .int .i64 0, .int .i64 (ym b plan)] else if endR (zF b plan) < 0 then .tup [.sl true [], .int .i64 0, .int .i64 9] else .tup [.sl (zI b).isEmpty (chsA (zI b)), .int .i64 (endR (zF b plan)), .int .i64 0]
theorem mul64_c (k : Nat) (hk : k <= 10) : Comp Tryz.prog 280 [.int .u64 1, .int .u64 k] (.tup [.int .u64 0, .int .u64 k]) := by
 have hkk : k = 0 \/ k = 1 \/ k = 2 \/ k = 3 \/ k = 4 \/ k = 5 \/ k = 6 \/ k = 7 \/ k = 8 \/ k = 9 \/ k = 10 := by omega
 rcases hkk with rfl | rfl | rfl | rfl | rfl | rfl | rfl | rfl | rfl | rfl | rfl
 all_goals
  refine Comp.body (T := tab) (res := [.tmp 4, .tmp 5]) zb [] Tryz.func280 rfl (by kernel_rfl) Tryz.ntmps280 rfl (by simp only [List.length_cons, List.length_nil]; decide) (by rfl) ?_; conv => whnf
  repeat' ((first | refine zh.a ?_ | (with_reducible apply XInt.mk)); conv => whnf)
  exact ⟨.low rfl⟩
theorem mul_c (k : Nat) (hk : k <= 10) : Comp Tryz.prog 268 [.int .u64 1, .int .u64 k] (.tup [.int .u64 0, .int .u64 k]) := by
 refine Comp.body (T := tab) (res := [.tmp 4, .tmp 5]) zb [] Tryz.func268 rfl (by kernel_rfl) Tryz.ntmps268 rfl (by simp only [List.length_cons, List.length_nil]; decide) (by rfl) ?_; conv => whnf
 repeat' first | ((first | (with_reducible apply XBr.ff) | (refine za.ret (mul64_c k hk) ?_)); conv => whnf) | fail
 exact ⟨.low rfl⟩
theorem XInt.u64 {x : Int} {k : AV -> Prop} (h1 : 0 <= x) (h2 : x <= 18446744073709551615) (h : k (.int .u64 x)) : XInt .u64 x k := by
 have e : IntKind.u64.wrap x = x := by simp only [IntKind.wrap, IntKind.bits, IntKind.signed]; simp; omega
 exact ⟨by rw [e]; exact h⟩
def repL (v : Int) (k c : Nat) : List Int := List.replicate c v ++ List.replicate (k - c) 0
theorem qW (v : Int) (k c : Nat) : ints (repL v k c) = List.replicate c (.int .i64 v) ++ List.replicate (k - c) (.int .i64 0) := by
 unfold repL ints
 rw [List.map_append, List.map_replicate, List.map_replicate]
theorem repL_len {v : Int} {k c : Nat} (h : c <= k) : (repL v k c).length = k := by unfold repL; rw [List.length_append, List.length_replicate, List.length_replicate]; omega
theorem zdP {v : Int} {k c : Nat} (h : c <= k) : splice (ints (repL v k c)) c ((((ints (repL v k c)).drop 0).take c).take (k - c)) = ints (repL v k (c + min (k - c) c)) := by
 rw [qW, qW]
 have e1 : (((List.replicate c (AV.int .i64 v) ++ List.replicate (k - c) (AV.int .i64 0)).drop 0).take c).take (k - c) = List.replicate (min (k - c) c) (AV.int .i64 v) := by
  rw [List.drop_zero, List.take_left' (List.length_replicate ..), List.take_replicate]
 rw [e1]
 unfold splice
 rw [List.take_left' (List.length_replicate ..), List.length_replicate, List.drop_append, List.length_replicate, List.drop_of_length_le (by rw [List.length_replicate]; omega), List.nil_append, List.drop_replicate, List.replicate_append_replicate]
 congr 2
 omega
theorem repeat_c (v : Int) (k : Nat) (h1 : 1 <= k) (hk : k <= 10) : Comp Tryz.prog 235 [.sl false [.int .i64 v], natA k] (.sl false (ints (List.replicate k v))) := by
 refine Comp.body (T := tab) (res := [.tmp 4]) zb [] Tryz.func235 rfl (by kernel_rfl) Tryz.ntmps235 rfl (by simp only [List.length_cons, List.length_nil]; decide) (by rfl) ?_; conv => whnf
 repeat' first | ((with_reducible first | apply XBr.ff | refine XBr.y fun h => ?_ | refine XBr.n fun h => ?_ | refine XBr.dec (fun h => ?_) fun h => ?_ | refine XInt.a ?_) <;> conv => whnf) | ((first | (first | refine zh.a ?_ | (with_reducible refine XInt.u64 (by omega) (by omega) ?_)) | ((show XInt IntKind.u64 ((1 : Nat) : Int) _); (with_reducible refine XInt.u64 (by omega) (by omega) ?_)) | (refine za.ret (mul_c k hk) ?_)); conv => whnf) | fail
 refine zh.mk ⟨rfl, by rw [List.length_replicate]⟩ ?_
 conv => whnf
 refine v7.mk ?_
 conv => whnf
 skip
 refine Walk.loopK zb [] [(4, _), (7, .gr 0 k)] ⟨rfl, by rw [<- Int.toNat_natCast k]; rfl, trivial⟩ (fun c : Nat => 1 <= c /\ c <= k) (fun c => [(8, natA c)]) (fun c => [.grow 3 false (ints (repL v k c))]) (fun c => k - c) 1 ⟨Nat.le_refl 1, h1⟩ ?_ ⟨?_, trivial⟩ ?_
 ·show _ = [Blk.grow _ false (splice (List.replicate ((k : Int)).toNat (AV.int .i64 0)) 0 ([AV.int .i64 v].take ((k : Int)).toNat))]
  rw [qW, Int.toNat_natCast, List.take_of_length_le (by simpa using h1)]
  obtain ⟨d, rfl⟩ : ∃ d, k = d + 1 := ⟨k - 1, by omega⟩
  rw [Nat.add_sub_cancel]
  unfold splice
  simp only [List.take_zero, List.nil_append, List.length_cons, List.length_nil, List.replicate_succ, List.drop_succ_cons, List.drop_zero, Nat.zero_add, List.replicate_zero]
 ·show some (AV.int .i64 _) = _
  rw [Int.toNat_natCast]
  refine congrArg (fun z => some (AV.int .i64 z)) ?_
  obtain ⟨d, rfl⟩ : ∃ d, k = d + 1 := ⟨k - 1, by omega⟩
  show ((min 1 (d + 1) : Nat) : Int) = _
  omega
 rintro c ⟨g1, g2⟩
 have hl := repL_len (v := v) g2
 have hl2 : (ints (repL v k c)).length = k := by rw [zm, hl]
 have hsp := zdP (v := v) g2
 have hw : wide 1 (List.take ((c : Int) - 0).toNat (List.drop (Int.toNat 0) (ints (repL v k c)))) = true := by
  show wide 1 (List.take _ (List.drop _ ((repL v k c).map (AV.int .i64)))) = true
  rw [<- List.map_drop, <- List.map_take]; exact wideI _
 have hl3 : (List.take ((c : Int) - 0).toNat (List.drop (Int.toNat 0) (ints (repL v k c)))).length = c := by
  rw [List.length_take, List.length_drop, hl2, show Int.toNat 0 = 0 from rfl]; omega
 conv => whnf
 repeat' first | ((with_reducible first | refine XBr.y fun h => ?_ | refine XBr.n fun h => ?_ | refine XBr.dec (fun h => ?_) fun h => ?_ | refine XInt.a ?_ | apply Chk.go | apply ChkA.go | apply ChkF.go | apply ChkB.go | apply zw.mk) <;> conv => whnf) | (refine zh.a ?_; conv => whnf) | (with_reducible first | apply XAnd.mk | exact trivial) | (exact zd.mk rfl rfl) | (apply Walk.drawN (id := 9) zb zg [] [7] (hsC [_, _]) [_, _, _, _, _, _, _, _, _, _] (by kernel_rfl) rfl) | ((first | refine zh.mk ⟨⟨by omega, by omega, by omega, by omega⟩, hl2, rfl⟩ ?_ | refine zh.mk ⟨rfl, hl2, by omega⟩ ?_ | refine v7.mk ?_); conv => whnf) | fail
 ·refine zk.go (c + min (k - c) c) ⟨by omega, by omega⟩ (by omega) ?_ ⟨rfl, rfl, ?_, trivial⟩
  ·show [Blk.grow _ false (ints (repL v k (c + min (k - c) c)))] = [Blk.grow _ false (splice (ints (repL v k c)) _ ((List.take ((c : Int) - 0).toNat (List.drop (Int.toNat 0) (ints (repL v k c)))).take ((k : Int) - c).toNat))]
   rw [<- hsp, show ((c : Int) - 0).toNat = c by omega, show ((k : Int) - c).toNat = k - c by omega]
   rfl
  ·show some (AV.int .i64 _) = _
   refine congrArg (fun z => some (AV.int .i64 z)) ?_
   rw [hl3]; omega
 ·obtain rfl : c = k := by omega
  have e : repL v c c = List.replicate c v := by unfold repL; rw [Nat.sub_self]; exact List.append_nil _
  rw [e] at hl2 ⊢
  exact ⟨Froz.grow rfl hl2 (lowI _)⟩
def zC (b : Bd) (share : Int) : Int := if bedE b ≠ 0 then bedE b else if inZ share 0 b.room = false then 3 else 0
theorem yx {b : Bd} {share : Int} : zC b share = 0 ↔ BdOk b /\ 0 <= share /\ share <= b.room := by
 unfold zC
 by_cases hb : bedE b = 0
 ·rw [if_neg (fun h => h hb)]
  cases hi : inZ share 0 b.room
  ·rw [if_pos rfl]
   refine ⟨(fun h => by cases h), (fun h => ?_)⟩
   rw [zx.2 h.2] at hi; cases hi
  ·rw [if_neg (by simp)]
   exact ⟨fun _ => ⟨(zz b).1 hb, zx.1 hi⟩, fun _ => rfl⟩
 ·rw [if_pos hb]
  exact ⟨fun h => absurd h hb, fun h => (zz b).2 h.1⟩
def yH (b : Bd) (share : Int) : AV := .tup [if bedE b = 0 then dskA b else .nilp, .int .i64 (zC b share)]
theorem wk (b : Bd) (share : Int) (hm : b.months.length <= 100000) (hs : b.surveys.length <= 100000) : Comp Tryz.prog 105 [bedA b, .int .i64 share] (yH b share) := by
 unfold yH zC
 by_cases hb : bedE b = 0
 ·have ok := (zz b).1 hb
  have ho := kv b ok
  have ha := zS b share
  rw [if_pos hb, if_neg (fun h => h hb)]
  generalize inZ share 0 b.room = r at ha
  refine Comp.body (T := tab) (res := [.tmp 4, .tmp 5]) zb [] Tryz.func105 rfl (by kernel_rfl) Tryz.ntmps105 rfl (by simp only [List.length_cons, List.length_nil]; decide) (by simp only [lowL, bedL, AV.low]; rfl) ?_; conv => whnf
  repeat' first | ((with_reducible first | apply XBr.tt | refine XBr.y1 fun h => ?_ | refine XBr.n1 fun h => ?_ | refine XBr.beq (fun h => ?_) fun h => ?_) <;> conv => whnf) | with_reducible apply XBr.not | ((first | refine za.ret ho ?_ | refine za.ret ha ?_); conv => whnf) | ((with_reducible refine XBr.mk' (fun h => ?_) fun h => ?_) <;> conv => whnf) | fail
  ·rename_i h
   rw [if_neg (by rw [h]; simp)]; exact ⟨.low (by simp only [pack, AV.low, lowL, dskL]; rfl)⟩
  ·rename_i h
   rw [if_pos h]; exact ⟨.low (by simp only [pack, AV.low, lowL, dskL]; rfl)⟩
 ·have ho := kd b hm hs hb
  rw [if_neg hb, if_pos hb]
  generalize bedE b = e at ho hb
  refine Comp.body (T := tab) (res := [.tmp 4, .tmp 5]) zb [] Tryz.func105 rfl (by kernel_rfl) Tryz.ntmps105 rfl (by simp only [List.length_cons, List.length_nil]; decide) (by simp only [lowL, bedL, AV.low]; rfl) ?_; conv => whnf
  repeat' first | ((with_reducible first | apply XBr.ff | refine XBr.y1 fun h => ?_ | refine XBr.n1 fun h => ?_ | refine XBr.beq (fun h => ?_) fun h => ?_) <;> conv => whnf) | ((refine za.ret ho ?_); conv => whnf) | fail
  exact ⟨.low rfl⟩
def kA (b : Bd) (share : Int) : Nat -> Int
 | 0 => -1
 | n + 1 => if j6 b (List.replicate b.months.length (n : Int)) share = true then n else kA b share n
def gB (b : Bd) (share : Int) : AV := if zC b share ≠ 0 then .tup [.int .i64 0, .int .i64 (zC b share)] else if kA b share (b.room.toNat + 1) < 0 then .tup [.int .i64 0, .int .i64 6] else .tup [.int .i64 (kA b share (b.room.toNat + 1)), .int .i64 0]
theorem even_c (b : Bd) (share : Int) (hm : b.months.length <= 100000) (hs : b.surveys.length <= 100000) : Comp Tryz.prog 151 [bedA b, .int .i64 share] (gB b share) := by
 have hsh := wk b share hm hs
 unfold gB
 by_cases hE : zC b share = 0
 ·obtain ⟨ok, h1, h2⟩ := yx.1 hE
  have m1 := ok.m1
  have m2 := ok.m2
  have r1 := ok.r1
  have r2 := ok.r2
  have e1 : ((b.months.map moA).length : Int) = b.months.length := by rw [List.length_map]
  unfold yH at hsh
  rw [hE, if_pos ((zz b).2 ok)] at hsh
  rw [if_neg (fun h => h hE)]
  refine Comp.body (T := tab) (res := [.tmp 4, .tmp 5]) zb [] Tryz.func151 rfl (by kernel_rfl) Tryz.ntmps151 rfl (by simp only [List.length_cons, List.length_nil]; decide) (by simp only [lowL, bedL, AV.low]; rfl) ?_; conv => whnf
  repeat' first | ((with_reducible first | refine XBr.y2 fun h => ?_ | refine XBr.n2 fun h => ?_ | refine XBr.bne (fun h => ?_) fun h => ?_ | refine XInt.a ?_) <;> conv => whnf) | ((refine za.ret hsh ?_); conv => whnf) | fail
  refine Walk.loopK zb [] [(1, _), (2, _), (4, _), (5, _), (23, _)] ⟨rfl, rfl, rfl, rfl, rfl, trivial⟩ (fun n : Nat => (n : Int) <= b.room + 1) (fun n => [(8, .int .i64 (kA b share n)), (24, natA n)]) (fun _ => []) (fun n => (b.room + 1).toNat - n) 0 (by omega) rfl ⟨rfl, rfl, trivial⟩ ?_
  intro n hn
  have hk := fun (h : (n : Int) <= b.room) => zbM b false (List.replicate b.months.length (n : Int)) share (by omega) (by omega) (by rw [List.length_replicate]; omega)
  have hkA : (n : Int) <= b.room -> ju b (List.replicate b.months.length (n : Int)) share = .tup [.bool (j6 b (List.replicate b.months.length (n : Int)) share), .int .i64 0] := fun h => by
   unfold ju
   rw [if_neg (fun h' => h' (vq.2 ⟨ok, List.length_replicate, fun x hx => by rw [List.eq_of_mem_replicate hx]; omega⟩)), if_neg (by rw [zx.2 ⟨h1, h2⟩]; simp)]
  have hr := repeat_c (n : Int) b.months.length (by omega) (by omega)
  have hev : kA b share (n + 1) = if j6 b (List.replicate b.months.length (n : Int)) share = true then (n : Int) else kA b share n := rfl
  conv => whnf
  by_cases hlt : (n : Int) <= b.room
  ·have hk := hk hlt
   rw [hkA hlt] at hk
   generalize j6 b (List.replicate b.months.length (n : Int)) share = r at hk hev
   have hr' : Comp Tryz.prog 235 [.sl false [.int .i64 (n : Int)], .int .i64 ((b.months.map moA).length : Int)] (.sl false (ints (List.replicate b.months.length (n : Int)))) := by rw [e1]; exact hr
   repeat' first | ((with_reducible first | refine XBr.y fun h => ?_ | refine XBr.n fun h => ?_ | refine XBr.dec (fun h => ?_) fun h => ?_ | refine XInt.a ?_ | apply Chk.go | apply ChkA.go | apply ChkF.go | apply ChkB.go | apply zw.mk) <;> conv => whnf) | (refine zh.a ?_; conv => whnf) | (with_reducible first | apply XAnd.mk | exact trivial) | (exact zd.mk rfl rfl) | (apply Walk.drawN (id := 8) zb zg [] [] (hsU _) [_, _, _, _, _, _, _, _, _, _, _, _, _, _] (by kernel_rfl) rfl) | ((first | refine za.ret hr' ?_ | refine za.ret hk ?_); conv => whnf) | ((with_reducible refine XBr.mk' (fun h => ?_) fun h => ?_) <;> conv => whnf) | fail
   ·rename_i h
    rw [if_pos h] at hev
    refine zk.go (n + 1) (by omega) (by omega) rfl ⟨rfl, rfl, rfl, rfl, rfl, ?_, rfl, trivial⟩
    rw [hev]; rfl
   ·rename_i h
    rw [if_neg (by rw [h]; simp)] at hev
    refine zk.go (n + 1) (by omega) (by omega) rfl ⟨rfl, rfl, rfl, rfl, rfl, ?_, rfl, trivial⟩
    rw [hev]; rfl
  ·obtain rfl : n = b.room.toNat + 1 := by omega
   clear hk hkA hr hev
   generalize kA b share (b.room.toNat + 1) = z
   repeat' ((with_reducible first | refine XBr.y fun h => ?_ | refine XBr.n fun h => ?_ | refine XBr.dec (fun h => ?_) fun h => ?_) <;> conv => whnf)
   ·rename_i h
    rw [if_pos h]; exact ⟨.low rfl⟩
   ·rename_i h
    rw [if_neg h]; exact ⟨.low rfl⟩
 ·rw [if_pos hE]
  have hE2 : ∃ d, yH b share = .tup [d, .int .i64 (zC b share)] /\ d.low 0 = true := by
   unfold yH
   refine ⟨_, rfl, ?_⟩
   split
   ·exact dskL b
   ·rfl
  obtain ⟨d, hd, hd2⟩ := hE2
  rw [hd] at hsh
  generalize zC b share = e at hsh hE
  refine Comp.body (T := tab) (res := [.tmp 4, .tmp 5]) zb [] Tryz.func151 rfl (by kernel_rfl) Tryz.ntmps151 rfl (by simp only [List.length_cons, List.length_nil]; decide) (by simp only [lowL, bedL, AV.low]; rfl) ?_; conv => whnf
  repeat' first | ((with_reducible first | refine XBr.y2 fun h => ?_ | refine XBr.n2 fun h => ?_ | refine XBr.bne (fun h => ?_) fun h => ?_) <;> conv => whnf) | ((refine za.ret hsh ?_); conv => whnf) | fail
  exact ⟨.low rfl⟩
theorem zU {n : Nat} (l : List (Int × Int)) : lowL n (chsA l) = true := y6 (fun _ => rfl) l
theorem zcN (b : Bd) (nl : Bool) (plan : List Int) (hm : b.months.length <= 100000) (hs : b.surveys.length <= 100000) (hl : plan.length <= 100000) : Comp Tryz.prog 129 [bedA b, .sl nl (ints plan)] (vC b plan) := by
 unfold vC
 by_cases hE : ym b plan = 0
 ·obtain ⟨ok, h1, h2⟩ := vq.1 hE
  have m2 := ok.m2
  have hp := zbf b ok nl plan h1 h2
  have he := end_c (zF b plan) (gq ok h2 h1).toBedOk
  have hw : zI b = zI (zF b plan) := by
   unfold zI
   rw [vM b, vM (zF b plan), z7, ya, ya, List.map_map, List.map_map]
   refine List.map_congr_left fun i hi => ?_
   rw [List.mem_range] at hi
   show ((moB b i).pl, (moB b i).th) = ((moB (zF b plan) i).pl, (moB (zF b plan) i).th)
   rw [jb hi]
  rw [if_neg (fun h => h hE), hw]
  have hlen := z7 b plan
  generalize zF b plan = c at hp he hlen
  have e1 : ((c.months.map moA).length : Int) = c.months.length := by rw [List.length_map]
  have hwl : (zI c).length = c.months.length := List.length_map _
  refine Comp.body (T := tab) (res := [.tmp 4, .tmp 5, .tmp 6]) zb [] Tryz.func129 rfl (by kernel_rfl) Tryz.ntmps129 rfl (by simp only [List.length_cons, List.length_nil]; decide) (by simp only [lowL, bedL, AV.low, lowI]; rfl) ?_; conv => whnf
  repeat' first | ((with_reducible first | refine XBr.y fun h => ?_ | refine XBr.n fun h => ?_ | refine XBr.dec (fun h => ?_) fun h => ?_ | refine XBr.y2 fun h => ?_ | refine XBr.n2 fun h => ?_ | refine XBr.bne (fun h => ?_) fun h => ?_) <;> conv => whnf) | ((first | refine za.ret hp ?_ | refine za.ret he ?_); conv => whnf) | fail
  ·rename_i h
   rw [if_pos h]; exact ⟨.low rfl⟩
  ·rename_i h
   rw [if_neg h]
   refine Walk.nilgr 10 68 rfl ?_
   refine Walk.loopGK zb [] [(4, _), (5, _), (6, _), (9, _), (30, _), (31, _)] ⟨rfl, rfl, rfl, rfl, rfl, rfl, trivial⟩ (fun i : Nat => i <= c.months.length) (fun i => [(10, .gr 0 ((zI c).take i).length), (32, natA i)]) (fun i => [.grow 68 ((zI c).take i).isEmpty (chsA ((zI c).take i))]) (fun i => c.months.length - i) 0 (Nat.zero_le _) rfl ⟨rfl, rfl, trivial⟩ ?_ (fun _ _ => (show (1 : Nat) <= 1 from Nat.le_refl 1)) ?_
   ·intro i _
    refine ⟨fun z hz => ?_, fun z hz => ?_⟩
    ·rw [List.mem_singleton] at hz; subst hz; exact zU _
    ·simp only [List.cons_append, List.nil_append, List.mem_cons, List.not_mem_nil, or_false] at hz
     rcases hz with rfl | rfl | rfl | rfl | rfl | rfl | rfl | rfl <;> first | rfl | exact yn _
   intro i hi
   have hnx : i < c.months.length -> (zI c).take (i + 1) = (zI c).take i ++ [((moB c i).pl, (moB c i).th)] := fun h => by
    rw [jo (by omega)]
    congr 2
    unfold zI
    rw [List.getD_eq_getElem?_getD, List.getElem?_map, List.getElem?_eq_getElem h]
    unfold moB
    rw [List.getD_eq_getElem?_getD, List.getElem?_eq_getElem h]; rfl
   have hli : (chsA ((zI c).take i)).length = ((zI c).take i).length := List.length_map _
   have hl2 : ((zI c).take i).length = i := by rw [List.length_take]; omega
   conv => whnf
   repeat' first | ((with_reducible first | refine XBr.y fun h => ?_ | refine XBr.n fun h => ?_ | refine XBr.dec (fun h => ?_) fun h => ?_ | refine XInt.a ?_) <;> conv => whnf) | ((first | refine zh.a ?_ | refine XIx.a ?_ | refine za.ret (jj (moB c i)) ?_); conv => whnf) | fail
   ·refine zp.go (i + 1) [.cells (moC (moB c i))] (by omega) (by omega) ?_ ⟨rfl, rfl, rfl, rfl, rfl, rfl, ?_, rfl, trivial⟩
    ·rw [hnx (by omega)]
     show [Blk.grow _ ((zI c).take i ++ [((moB c i).pl, (moB c i).th)]).isEmpty (((zI c).take i ++ [((moB c i).pl, (moB c i).th)]).map prA)] ++ _ = _
     rw [zD, List.map_append]; rfl
    ·show some (AV.gr 0 (((zI c).take i).length + 1)) = _
     rw [hnx (by omega), List.length_append]; rfl
   ·obtain rfl : i = c.months.length := by omega
    have e : (zI c).take c.months.length = zI c := List.take_of_length_le (by omega)
    rw [e] at hli ⊢
    exact ⟨Froz.tup (.cons (Froz.grow rfl hli (zU _)) (.cons (.low rfl) (.cons (.low rfl) .nil)))⟩
 ·rw [if_pos hE]
  have hp := fP b nl plan hm hs hl hE
  generalize ym b plan = e at hp hE
  refine Comp.body (T := tab) (res := [.tmp 4, .tmp 5, .tmp 6]) zb [] Tryz.func129 rfl (by kernel_rfl) Tryz.ntmps129 rfl (by simp only [List.length_cons, List.length_nil]; decide) (by simp only [lowL, bedL, AV.low, lowI]; rfl) ?_; conv => whnf
  repeat' first | ((with_reducible first | refine XBr.y2 fun h => ?_ | refine XBr.n2 fun h => ?_ | refine XBr.bne (fun h => ?_) fun h => ?_) <;> conv => whnf) | ((refine za.ret hp ?_); conv => whnf) | fail
  exact ⟨.low rfl⟩
end GA
end
section
namespace GA
open Go Go.RowKit Go.Proofs
def yB (b : Bd) (m : Nat) (v : Int) : Option Nat := (List.range (b.room.toNat + 1)).find? fun n => decide (v <= lieR b m n)
def flrL (b : Bd) (share : Int) : Nat -> Option (List Int)
 | 0 => some [share]
 | k + 1 => match flrL b share k with
   | none => none
   | some l => match yB b (b.months.length - (k + 1)) (l.headD 0) with
     | none => none
     | some n => some ((n : Int) :: l)
theorem zbk {b : Bd} {share : Int} {k : Nat} (h : flrL b share k = none) : ∀ d, flrL b share (k + d) = none
 | 0 => h
 | d + 1 => by show flrL b share (k + d + 1) = none; rw [flrL, zbk h d]
theorem wa {b : Bd} {share : Int} : ∀ {k : Nat} {l : List Int}, flrL b share k = some l -> l.length = k + 1
 | 0, l, h => by rw [flrL] at h; cases h; rfl
 | k + 1, l, h => by
   rw [flrL] at h
   cases h1 : flrL b share k with
   | none => rw [h1] at h; cases h
   | some l1 =>
     rw [h1] at h; dsimp only at h
     cases h2 : yB b (b.months.length - (k + 1)) (l1.headD 0) with
     | none => rw [h2] at h; cases h
     | some n => rw [h2] at h; cases h; rw [List.length_cons, wa h1]
def flrA (o : Option (List Int)) : AV := match o with | none => .sl true [] | some l => .sl false (ints l)
theorem zc2 (b : Bd) (ok : BedOk b) (share : Int) : Comp Tryz.prog 226 [dskA b, .int .i64 share] (flrA (flrL b share b.months.length)) := by
 have m1 := ok.m1
 have m2 := ok.m2
 have r1 := ok.r1
 have r2 := ok.r2
 have e1 : ((b.months.map moA).length : Int) = b.months.length := by rw [List.length_map]
 refine Comp.body (T := tab) (res := [.tmp 4]) zb [9, 61] Tryz.func226 rfl (by kernel_rfl) Tryz.ntmps226 rfl (by simp only [List.length_cons, List.length_nil]; decide) (by simp only [lowL, dskL, AV.low]; rfl) ?_; conv => whnf
 repeat' first | ((with_reducible refine XInt.a ?_); conv => whnf) | (refine zh.a ?_; conv => whnf) | fail
 refine Walk.loopGK zb [9, 61] [(0, _)] ⟨rfl, trivial⟩ (fun q : Nat × Int × List Int => q.1 <= b.months.length /\ flrL b share q.1 = some (q.2.1 :: q.2.2)) (fun q => [(4, .sl true []), (5, .gr 0 (q.2.2.length + 1)), (6, .int .i64 ((b.months.length : Int) - 1 - q.1))]) (fun q => [.grow 3 false (ints (q.2.1 :: q.2.2))]) (fun q => b.months.length - q.1) (0, share, []) ⟨Nat.zero_le _, rfl⟩ rfl ⟨rfl, rfl, congrArg (fun z => some (AV.int .i64 z)) (by dsimp only; omega), trivial⟩ ?_ (fun _ _ => (show (1 : Nat) <= 1 from Nat.le_refl 1)) ?_
 ·intro q _
  refine ⟨fun z hz => ?_, fun z hz => ?_⟩
  ·rw [List.mem_singleton] at hz; subst hz; exact lowI _
  ·simp only [List.cons_append, List.nil_append, List.mem_cons, List.not_mem_nil, or_false] at hz
   rcases hz with rfl | rfl | rfl | rfl <;> first | exact dskL b | rfl
 rintro ⟨k, v, ys⟩ ⟨hk, hf⟩
 dsimp only at hk hf ⊢
 have hlen := wa hf
 simp only [List.length_cons] at hlen
 conv => whnf
 by_cases hkm : k < b.months.length
 ·obtain ⟨m, hm⟩ : ∃ m : Nat, (b.months.length : Int) - 1 - k = m := ⟨b.months.length - 1 - k, by omega⟩
  have hm1 : m < b.months.length := by omega
  have hmo := ok.mo' hm1
  have hnx : flrL b share (k + 1) = match yB b m v with | none => none | some n => some ((n : Int) :: v :: ys) := by
   rw [flrL, hf]
   dsimp only
   rw [show b.months.length - (k + 1) = m by omega]; rfl
  rw [hm]
  repeat' ((with_reducible first | refine XBr.y fun h => ?_ | refine XBr.n fun h => ?_ | refine XBr.dec (fun h => ?_) fun h => ?_) <;> conv => whnf)
  refine Walk.loopK zb [9, 61] [(0, _), (4, _), (5, _), (6, _)] ⟨rfl, rfl, rfl, rfl, trivial⟩ (fun n : Nat => (n : Int) <= b.room + 1 /\ ∀ q, q < n -> lieR b m q < v) (fun n => [(7, natA n)]) (fun _ => [.grow 3 false (ints (v :: ys))]) (fun n => (b.room + 1).toNat - n) 0 ⟨by omega, fun q hq => by omega⟩ rfl ⟨rfl, trivial⟩ ?_
  rintro n ⟨hn, hq⟩
  have hgc := fun (h : (n : Int) <= b.room) => y9 b m n (moB b m).pl (moB b m).th hm1 (by omega) (by omega) hmo.1 hmo.2.1 (by omega) (by omega) (by omega) (by omega) (by omega) (by omega)
  change (n : Int) <= b.room -> Comp Tryz.prog _ _ (.int .i64 (lieR b m n)) at hgc
  have hlb := yp ok (j := m) (n := n) hm1
  conv => whnf
  by_cases hle : (n : Int) <= b.room
  ·have hgc := hgc hle
   repeat' first | ((with_reducible first | refine XBr.y fun h => ?_ | refine XBr.n fun h => ?_ | refine XBr.dec (fun h => ?_) fun h => ?_ | refine XInt.a ?_ | apply Chk.go | apply ChkA.go | apply ChkF.go | apply ChkB.go | apply zw.mk) <;> conv => whnf) | ((first | refine zh.a ?_ | refine XIx.a ?_); conv => whnf) | (with_reducible first | apply XAnd.mk | exact trivial) | (exact zd.mk rfl rfl) | (apply Walk.drawN (id := 6) zb zg [9, 61] [] (hsU _) [_, _, _, _, _, _, _, _, _, _, _, _, _, _, _, _, _, _, _, _, _, _, _, _, _, _, _, _, _] (by kernel_rfl) rfl) | ((first | refine za.ret (jj (moB b m)) ?_ | refine za.ret hgc ?_ | (refine zh.mk ⟨by rw [zm]; rfl, rfl, by omega, by omega⟩ ?_) | (refine XGet.mk (by rw [zm]; rfl) (by omega) ?_)); conv => whnf) | fail
   ·exact zk.go (n + 1) ⟨by omega, fun q hqn => by
     rcases Nat.lt_or_ge q n with h1 | h1
     ·exact hq q h1
     ·obtain rfl : q = n := by omega
      assumption⟩ (by omega) rfl ⟨rfl, rfl, rfl, rfl, rfl, trivial⟩
   ·rename_i hnv
    have hst : yB b m v = some n := by
     refine List.find?_range_eq_some.2 ⟨?_, List.mem_range.2 (by omega), fun q h => ?_⟩
     ·rw [decide_eq_true_eq]; exact Int.not_lt.1 hnv
     ·have := hq q h; simp; omega
    rw [hst] at hnx
    refine za.insert (p := 0) rfl rfl (by decide) (by rfl) (by omega) (by omega) (by omega) ?_
    conv => whnf
    repeat' ((with_reducible refine XInt.a ?_); conv => whnf)
    refine zp.go (k + 1, (n : Int), v :: ys) [.grow 3 false [natA n]] ⟨by dsimp only; omega, hnx⟩ (by dsimp only; omega) rfl ⟨rfl, rfl, rfl, ?_, trivial⟩
    exact congrArg (fun z => some (AV.int .i64 z)) (by dsimp only; omega)
  ·have hst : yB b m v = none := List.find?_range_eq_none.2 fun q h => by have := hq q (by omega); simp; omega
   rw [hst] at hnx
   have hno : flrL b share b.months.length = none := by
    have := zbk hnx (b.months.length - (k + 1))
    rwa [show k + 1 + (b.months.length - (k + 1)) = b.months.length by omega] at this
   rw [hno]
   repeat' first | ((with_reducible first | apply XBr.ff | refine XBr.y fun h => ?_ | refine XBr.n fun h => ?_ | refine XBr.dec (fun h => ?_) fun h => ?_ | apply Chk.go | apply ChkA.go | apply ChkF.go | apply ChkB.go | apply zw.mk) <;> conv => whnf) | (with_reducible first | apply XAnd.mk | exact trivial) | (exact zd.mk rfl rfl) | (apply Walk.drawN (id := 6) zb zg [9, 61] [] (hsU _) [_, _, _, _, _, _, _, _, _, _, _, _, _, _, _, _, _, _, _, _, _, _, _, _, _, _, _, _, _] (by kernel_rfl) rfl) | fail
   exact ⟨.low rfl⟩
 ·obtain rfl : k = b.months.length := by omega
  repeat' ((with_reducible first | refine XBr.y fun h => ?_ | refine XBr.n fun h => ?_ | refine XBr.dec (fun h => ?_) fun h => ?_) <;> conv => whnf)
  rw [hf]
  exact ⟨Froz.grow rfl (by rw [zm]; rfl) (lowI _)⟩
def kW (b : Bd) (share : Int) : AV := if zC b share ≠ 0 then .tup [.sl true [], .int .i64 (zC b share)] else match flrL b share b.months.length with | none => .tup [.sl true [], .int .i64 6] | some l => .tup [.sl false (ints l), .int .i64 0]
theorem gF (b : Bd) (share : Int) : ∃ d, yH b share = .tup [d, .int .i64 (zC b share)] /\ d.low 0 = true := by
 unfold yH
 refine ⟨_, rfl, ?_⟩
 split
 ·exact dskL b
 ·rfl
theorem gD {b : Bd} {share : Int} (h : zC b share = 0) : yH b share = .tup [dskA b, .int .i64 0] := by
 unfold yH
 rw [h, if_pos ((zz b).2 (yx.1 h).1)]
theorem gx (b : Bd) (share : Int) (hm : b.months.length <= 100000) (hs : b.surveys.length <= 100000) : Comp Tryz.prog 138 [bedA b, .int .i64 share] (kW b share) := by
 have hsh := wk b share hm hs
 unfold kW
 by_cases hE : zC b share = 0
 ·obtain ⟨ok, h1, h2⟩ := yx.1 hE
  have hf := zc2 b ok.toBedOk share
  rw [gD hE] at hsh
  rw [if_neg (fun h => h hE)]
  generalize flrL b share b.months.length = o at hf
  cases o
  ·refine Comp.body (T := tab) (res := [.tmp 4, .tmp 5]) zb [] Tryz.func138 rfl (by kernel_rfl) Tryz.ntmps138 rfl (by simp only [List.length_cons, List.length_nil]; decide) (by simp only [lowL, bedL, AV.low]; rfl) ?_; conv => whnf
   repeat' first | ((with_reducible first | apply XBr.tt | refine XBr.y2 fun h => ?_ | refine XBr.n2 fun h => ?_ | refine XBr.bne (fun h => ?_) fun h => ?_) <;> conv => whnf) | ((first | refine za.ret hsh ?_ | refine za.ret hf ?_); conv => whnf) | fail
   exact ⟨.low rfl⟩
  ·refine Comp.body (T := tab) (res := [.tmp 4, .tmp 5]) zb [] Tryz.func138 rfl (by kernel_rfl) Tryz.ntmps138 rfl (by simp only [List.length_cons, List.length_nil]; decide) (by simp only [lowL, bedL, AV.low]; rfl) ?_; conv => whnf
   repeat' first | ((with_reducible first | apply XBr.ff | refine XBr.y2 fun h => ?_ | refine XBr.n2 fun h => ?_ | refine XBr.bne (fun h => ?_) fun h => ?_) <;> conv => whnf) | ((first | refine za.ret hsh ?_ | refine za.ret hf ?_); conv => whnf) | fail
   exact ⟨.low (by simp only [pack, AV.low, lowL, flrA, lowI]; rfl)⟩
 ·rw [if_pos hE]
  obtain ⟨d, hd, hd2⟩ := gF b share
  rw [hd] at hsh
  generalize zC b share = e at hsh hE
  refine Comp.body (T := tab) (res := [.tmp 4, .tmp 5]) zb [] Tryz.func138 rfl (by kernel_rfl) Tryz.ntmps138 rfl (by simp only [List.length_cons, List.length_nil]; decide) (by simp only [lowL, bedL, AV.low]; rfl) ?_; conv => whnf
  repeat' first | ((with_reducible first | refine XBr.y2 fun h => ?_ | refine XBr.n2 fun h => ?_ | refine XBr.bne (fun h => ?_) fun h => ?_) <;> conv => whnf) | ((refine za.ret hsh ?_); conv => whnf) | fail
  exact ⟨.low rfl⟩
def wy (b : Bd) (m a sp st : Int) : AV :=
 if bedE b ≠ 0 then .tup [.int .i64 0, .int .i64 (bedE b)]
 else if inZ m 0 ((b.months.length : Int) - 1) = false then .tup [.int .i64 0, .int .i64 1]
 else if inZ a 0 b.room = false then .tup [.int .i64 0, .int .i64 3]
 else if ji (moB b m.toNat) sp st = false then .tup [.int .i64 0, .int .i64 8]
 else if zJ b.room (moB b m.toNat).g a sp st - (moB b m.toNat).r < 0 then .tup [.int .i64 0, .int .i64 9]
 else .tup [.int .i64 (zJ b.room (moB b m.toNat).g a sp st - (moB b m.toNat).r), .int .i64 0]
theorem qy (b : Bd) (m a sp st : Int) (hm : b.months.length <= 100000) (hs : b.surveys.length <= 100000) : Comp Tryz.prog 114 [bedA b, .int .i64 m, .int .i64 a, chA sp st] (wy b m a sp st) := by
 unfold wy
 have e1 : ((b.months.map moA).length : Int) = b.months.length := by rw [List.length_map]
 by_cases hb : bedE b = 0
 ·have ok := (zz b).1 hb
  have r1 := ok.r1
  have r2 := ok.r2
  have ho := kv b ok
  have hmn := zas b m hm
  have ham := zS b a
  rw [if_neg (fun h => h hb)]
  by_cases h1 : inZ m 0 ((b.months.length : Int) - 1) = false
  ·rw [h1] at hmn
   rw [if_pos h1]
   refine Comp.body (T := tab) (res := [.tmp 8, .tmp 9]) zb [] Tryz.func114 rfl (by kernel_rfl) Tryz.ntmps114 rfl (by simp only [List.length_cons, List.length_nil]; decide) (by simp only [lowL, bedL, AV.low]; rfl) ?_; conv => whnf
   repeat' first | ((with_reducible first | apply XBr.ff | refine XBr.y2 fun h => ?_ | refine XBr.n2 fun h => ?_ | refine XBr.bne (fun h => ?_) fun h => ?_) <;> conv => whnf) | with_reducible apply XBr.not | ((first | refine za.ret ho ?_ | refine za.ret hmn ?_); conv => whnf) | fail
   exact ⟨.low rfl⟩
  ·rw [if_neg h1]
   rw [Bool.not_eq_false] at h1
   rw [h1] at hmn
   by_cases h2 : inZ a 0 b.room = false
   ·rw [h2] at ham
    rw [if_pos h2]
    refine Comp.body (T := tab) (res := [.tmp 8, .tmp 9]) zb [] Tryz.func114 rfl (by kernel_rfl) Tryz.ntmps114 rfl (by simp only [List.length_cons, List.length_nil]; decide) (by simp only [lowL, bedL, AV.low]; rfl) ?_; conv => whnf
    repeat' first | ((with_reducible first | apply XBr.tt | apply XBr.ff | refine XBr.y2 fun h => ?_ | refine XBr.n2 fun h => ?_ | refine XBr.bne (fun h => ?_) fun h => ?_) <;> conv => whnf) | with_reducible apply XBr.not | ((first | refine za.ret ho ?_ | refine za.ret hmn ?_ | refine za.ret ham ?_); conv => whnf) | fail
    exact ⟨.low rfl⟩
   ·rw [if_neg h2]
    rw [Bool.not_eq_false] at h2
    rw [h2] at ham
    obtain ⟨q1, q2⟩ := zx.1 h1
    obtain ⟨q3, q4⟩ := zx.1 h2
    obtain ⟨k, rfl⟩ : ∃ k : Nat, m = k := ⟨m.toNat, by omega⟩
    rw [Int.toNat_natCast]
    have hk : k < b.months.length := by omega
    have hmo := ok.mo' hk
    have hch := bChance_c (moB b k) sp st
    by_cases h3 : ji (moB b k) sp st = false
    ·rw [h3] at hch
     rw [if_pos h3]
     refine Comp.body (T := tab) (res := [.tmp 8, .tmp 9]) zb [] Tryz.func114 rfl (by kernel_rfl) Tryz.ntmps114 rfl (by simp only [List.length_cons, List.length_nil]; decide) (by simp only [lowL, bedL, AV.low]; rfl) ?_; conv => whnf
     repeat' first | ((with_reducible first | apply XBr.tt | apply XBr.ff | refine XBr.y2 fun h => ?_ | refine XBr.n2 fun h => ?_ | refine XBr.bne (fun h => ?_) fun h => ?_ | apply Chk.go | apply ChkA.go | apply ChkF.go | apply ChkB.go | apply zw.mk) <;> conv => whnf) | (refine XIx.a ?_; conv => whnf) | (with_reducible first | apply XBr.not | apply XAnd.mk | exact trivial) | (exact zd.mk rfl rfl) | (apply Walk.drawN (id := 8) zb zg [] [] (hsU _) [_, _, _, _, _, _, _, _, _] (by kernel_rfl) rfl) | ((first | refine za.ret ho ?_ | refine za.ret hmn ?_ | refine za.ret ham ?_ | refine za.ret hch ?_); conv => whnf) | fail
     exact ⟨.low rfl⟩
    ·rw [if_neg h3]
     rw [Bool.not_eq_false] at h3
     rw [h3] at hch
     unfold ji at h3
     rw [Bool.and_eq_true, zx, zx] at h3
     have hg := y9 b k a sp st hk q3 (by omega) hmo.1 hmo.2.1 (by omega) (by omega) (by omega) (by omega) (by omega) (by omega)
     change Comp Tryz.prog _ _ (.int .i64 (zJ b.room (moB b k).g a sp st)) at hg
     have hgb := ku (room := b.room) (g := (moB b k).g) (a := a) (sp := sp) (st := st) (by omega) (by omega)
     generalize zJ b.room (moB b k).g a sp st = z at hg hgb
     refine Comp.body (T := tab) (res := [.tmp 8, .tmp 9]) zb [] Tryz.func114 rfl (by kernel_rfl) Tryz.ntmps114 rfl (by simp only [List.length_cons, List.length_nil]; decide) (by simp only [lowL, bedL, AV.low]; rfl) ?_; conv => whnf
     repeat' first | ((with_reducible first | apply XBr.tt | refine XBr.y fun h => ?_ | refine XBr.n fun h => ?_ | refine XBr.dec (fun h => ?_) fun h => ?_ | refine XBr.y2 fun h => ?_ | refine XBr.n2 fun h => ?_ | refine XBr.bne (fun h => ?_) fun h => ?_ | apply Chk.go | apply ChkA.go | apply ChkF.go | apply ChkB.go | apply zw.mk) <;> conv => whnf) | (refine XIx.a ?_; conv => whnf) | (with_reducible first | apply XBr.not | apply XAnd.mk | exact trivial) | (exact zd.mk rfl rfl) | (apply Walk.drawN (id := 8) zb zg [] [] (hsU _) [_, _, _, _, _, _, _, _, _] (by kernel_rfl) rfl) | (apply Walk.drawN (id := 10) zb zg [] [] (hsU _) [_, _, _, _, _, _, _, _, _, _, _, _, _, _, _, _] (by kernel_rfl) rfl) | ((first | refine za.ret ho ?_ | refine za.ret hmn ?_ | refine za.ret ham ?_ | refine za.ret hch ?_ | refine za.ret hg ?_ | refine XInt.i64 (show _ <= z - (moB b k).r by omega) (show z - (moB b k).r <= _ by omega) ?_); conv => whnf) | fail
     ·rename_i h
      have h' : z - (moB b k).r < 0 := h
      rw [if_pos h']; exact ⟨.low rfl⟩
     ·rename_i h
      have h' : ¬ z - (moB b k).r < 0 := h
      rw [if_neg h']; exact ⟨.low rfl⟩
 ·have ho := kd b hm hs hb
  rw [if_pos hb]
  generalize bedE b = e at ho hb
  refine Comp.body (T := tab) (res := [.tmp 8, .tmp 9]) zb [] Tryz.func114 rfl (by kernel_rfl) Tryz.ntmps114 rfl (by simp only [List.length_cons, List.length_nil]; decide) (by simp only [lowL, bedL, AV.low]; rfl) ?_; conv => whnf
  repeat' first | ((with_reducible first | refine XBr.y2 fun h => ?_ | refine XBr.n2 fun h => ?_ | refine XBr.bne (fun h => ?_) fun h => ?_) <;> conv => whnf) | ((refine za.ret ho ?_); conv => whnf) | fail
  exact ⟨.low rfl⟩
end GA
end
section
namespace GA
open Go Go.RowKit Go.Proofs
def lstF (F : Nat -> Bool) (n : Nat) : List Int := ((List.range n).filter F).map fun i : Nat => (i : Int)
theorem kw (F : Nat -> Bool) (n : Nat) : lstF F (n + 1) = if F n = true then lstF F n ++ [(n : Int)] else lstF F n := by
 unfold lstF
 rw [List.range_succ, List.filter_append, List.map_append]
 by_cases h : F n = true
 ·rw [if_pos h, List.filter_cons, if_pos h]; rfl
 ·rw [if_neg h, List.filter_cons, if_neg h]; exact List.append_nil _
theorem yR (F : Nat -> Bool) (n : Nat) : (lstF F n).length <= n := by
 unfold lstF
 rw [List.length_map]; exact Nat.le_trans (List.length_filter_le _ _) (by simp)
theorem jG {F : Nat -> Bool} {n : Nat} {x : Int} : x ∈ lstF F n ↔ ∃ i : Nat, i < n /\ F i = true /\ x = i := by
 unfold lstF
 simp only [List.mem_map, List.mem_filter, List.mem_range]
 constructor
 ·rintro ⟨i, ⟨h1, h2⟩, rfl⟩; exact ⟨i, h1, h2, rfl⟩
 ·rintro ⟨i, h1, h2, rfl⟩; exact ⟨i, ⟨h1, h2⟩, rfl⟩
def amA (F : Nat -> Bool) : AV := .agg ((vecF 121 F).map .bool)
theorem amL {n : Nat} (F : Nat -> Bool) : (amA F).low n = true := g8 fun _ => rfl
theorem zak (F : Nat -> Bool) : Comp Tryz.prog 103 [amA F] (slA (lstF F 121)) := by
 refine Comp.body (T := tab) (res := [.tmp 2]) zb [] Tryz.func103 rfl (by kernel_rfl) Tryz.ntmps103 rfl (by simp only [List.length_cons, List.length_nil]; decide) (by simp only [lowL, amL]; rfl) ?_; conv => whnf
 repeat' ((refine ka rfl ?_); conv => whnf)
 refine Walk.nilgr 3 3 rfl ?_
 refine Walk.loopK zb [] [(2, _), (6, _)] ⟨rfl, rfl, trivial⟩ (fun n : Nat => n <= 121) (fun n => [(3, .gr 0 (lstF F n).length), (7, natA n)]) (fun n => [.grow 3 (lstF F n).isEmpty (ints (lstF F n))]) (fun n => 121 - n) 0 (Nat.zero_le _) rfl ⟨rfl, rfl, trivial⟩ ?_
 intro n hn
 have hs := kw F n
 have hl := yR F n
 have hl2 : (ints (lstF F n)).length = (lstF F n).length := zm _
 generalize hc : F n = s at hs
 conv => whnf
 repeat' first | ((with_reducible first | refine XBr.y fun h => ?_ | refine XBr.n fun h => ?_ | refine XBr.dec (fun h => ?_) fun h => ?_ | refine XInt.a ?_) <;> conv => whnf) | (refine zh.a ?_; conv => whnf) | (((refine kZ n (by omega) (by omega) ?_); rw [hc]); conv => whnf) | ((with_reducible refine XBr.mk' (fun h => ?_) fun h => ?_) <;> conv => whnf) | fail
 all_goals try subst h
 ·rw [if_pos rfl] at hs
  refine zk.go (n + 1) (by omega) (by omega) ?_ ⟨rfl, rfl, ?_, rfl, trivial⟩
  ·rw [hs]
   show [Blk.grow _ (lstF F n ++ [(n : Int)]).isEmpty ((lstF F n ++ [(n : Int)]).map (AV.int .i64))] = _
   rw [zD, List.map_append]; rfl
  ·show some (AV.gr 0 ((lstF F n).length + 1)) = _
   rw [hs, List.length_append]; rfl
 ·rw [if_neg (by simp)] at hs
  exact zk.go (n + 1) (by omega) (by omega) (by rw [hs]) ⟨rfl, rfl, by rw [hs]; rfl, rfl, trivial⟩
 ·obtain rfl : n = 121 := by omega
  exact ⟨Froz.grow rfl hl2 (lowI _)⟩
def zH (b : Bd) (p : Nat -> Bool) : Bool := vecF 121 (cnB b p 0) == List.replicate 121 false
theorem jq {b : Bd} {p : Nat -> Bool} : zH b p = true ↔ ∀ n, n < 121 -> cnB b p 0 n = false := by
 unfold zH
 rw [beq_iff_eq, <- zT]
 constructor
 ·intro h n hn
  have := congrArg (fun l => l.getD n true) h
  simpa only [yq _ hn] using this
 ·exact fun h => zy h
theorem noneB_dec (b : Bd) (p : Nat -> Bool) : zH b p = (List.range 121).all fun n => !cnB b p 0 n := by
 rw [Bool.eq_iff_iff, jq, List.all_eq_true]
 simp
theorem xeqb0 {F : Nat -> Bool} {k : Bool -> Prop} (h : k (vecF 121 F == List.replicate 121 false)) : XEqB ((vecF 121 F).map .bool) (List.replicate 121 (.bool false)) 1048697 k :=
 ⟨vecF 121 F, List.replicate 121 false, rfl, by rw [List.map_replicate], by rw [zj, List.length_replicate], by rw [zj], h⟩
def alwP : Nat -> Bool := fun _ => true
def canA (b : Bd) : AV := .sl false ((matF (b.months.length + 1) 121 (cnB b alwP)).map (arrF .bool))
theorem vY {n : Nat} (b : Bd) : (canA b).low n = true := jh fun _ => rfl
def z8 (b : Bd) : Int := if bedE b ≠ 0 then bedE b else if zH b alwP = true then 7 else 0
theorem ky {b : Bd} : z8 b = 0 ↔ BdOk b /\ zH b alwP = false := by
 unfold z8
 by_cases hb : bedE b = 0
 ·rw [if_neg (fun h => h hb)]
  cases zH b alwP
  ·rw [if_neg (by simp)]; exact ⟨fun _ => ⟨(zz b).1 hb, rfl⟩, fun _ => rfl⟩
  ·rw [if_pos rfl]; exact ⟨(fun h => by cases h), (fun h => by cases h.2)⟩
 ·rw [if_pos hb]; exact ⟨fun h => absurd h hb, fun h => (zz b).2 h.1⟩
def possA (b : Bd) : AV := if z8 b ≠ 0 then .tup [.nilp, .sl true [], .int .i64 (z8 b)] else .tup [dskA b, canA b, .int .i64 0]
theorem vG (b : Bd) (hm : b.months.length <= 100000) (hs : b.surveys.length <= 100000) : Comp Tryz.prog 221 [bedA b] (possA b) := by
 unfold possA
 by_cases hb : bedE b = 0
 ·have ok := (zz b).1 hb
  have ho := kv b ok
  have hc := can_c b ok 205 [] alwP (allF_c b)
  cases hn : zH b alwP
  ·have hn' : (vecF 121 (cnB b alwP 0) == List.replicate 121 false) = false := hn
   rw [ky.2 ⟨ok, hn⟩, if_neg (fun h => h rfl)]
   refine Comp.body (T := tab) (res := [.tmp 2, .tmp 3, .tmp 4]) zb [] Tryz.func221 rfl (by kernel_rfl) Tryz.ntmps221 rfl (by simp only [List.length_cons, List.length_nil]; decide) (by simp only [lowL, bedL]; rfl) ?_; conv => whnf
   repeat' first | ((with_reducible first | refine XBr.y2 fun h => ?_ | refine XBr.n2 fun h => ?_ | refine XBr.bne (fun h => ?_) fun h => ?_) <;> conv => whnf) | ((first | refine za.ret ho ?_ | refine za.ret fp ?_ | refine za.ret hc ?_ | refine XIx.mat 0 rfl (by omega) rfl ?_ | refine ka rfl ?_ | refine xeqb0 ?_ | (with_reducible refine XBr.no hn' ?_)); conv => whnf) | fail
   exact ⟨.low (by show lowL 0 [dskA b, canA b, _] = true; simp only [lowL, dskL, vY]; rfl)⟩
  ·have hn' : (vecF 121 (cnB b alwP 0) == List.replicate 121 false) = true := hn
   have hE : z8 b = 7 := by unfold z8; rw [if_neg (fun h => h hb), if_pos hn]
   rw [hE, if_pos (by decide)]
   refine Comp.body (T := tab) (res := [.tmp 2, .tmp 3, .tmp 4]) zb [] Tryz.func221 rfl (by kernel_rfl) Tryz.ntmps221 rfl (by simp only [List.length_cons, List.length_nil]; decide) (by simp only [lowL, bedL]; rfl) ?_; conv => whnf
   repeat' first | ((with_reducible first | refine XBr.y2 fun h => ?_ | refine XBr.n2 fun h => ?_ | refine XBr.bne (fun h => ?_) fun h => ?_) <;> conv => whnf) | ((first | refine za.ret ho ?_ | refine za.ret fp ?_ | refine za.ret hc ?_ | refine XIx.mat 0 rfl (by omega) rfl ?_ | refine ka rfl ?_ | refine xeqb0 ?_ | (with_reducible refine XBr.yes hn' ?_)); conv => whnf) | fail
   exact ⟨.low rfl⟩
 ·have ho := kd b hm hs hb
  have hE : z8 b = bedE b := by unfold z8; rw [if_pos hb]
  rw [hE, if_pos hb]
  generalize bedE b = e at ho hb
  refine Comp.body (T := tab) (res := [.tmp 2, .tmp 3, .tmp 4]) zb [] Tryz.func221 rfl (by kernel_rfl) Tryz.ntmps221 rfl (by simp only [List.length_cons, List.length_nil]; decide) (by simp only [lowL, bedL]; rfl) ?_; conv => whnf
  repeat' first | ((with_reducible first | refine XBr.y2 fun h => ?_ | refine XBr.n2 fun h => ?_ | refine XBr.bne (fun h => ?_) fun h => ?_) <;> conv => whnf) | ((refine za.ret ho ?_); conv => whnf) | fail
  exact ⟨.low rfl⟩
theorem ah_next {b : Bd} {p : Nat -> Bool} {m n : Nat} (hm : m < b.months.length) (h : ahF b p m n = true) : ∃ k, k ∈ lvL b m n /\ ahB b p (b.months.length - (m + 1)) k = true := by
 unfold ahF at h
 rw [Bool.and_eq_true, show b.months.length - m = (b.months.length - (m + 1)) + 1 by omega, ahB, Bool.and_eq_true, List.any_eq_true] at h
 obtain ⟨_, ⟨k, h1, h2⟩, _⟩ := h
 rw [show b.months.length - (b.months.length - (m + 1) + 1) = m by omega] at h1
 exact ⟨k, h1, h2⟩
theorem cn_ah {b : Bd} {p : Nat -> Bool} : ∀ {m n : Nat}, cnB b p m n = true -> ahF b p m n = true
 | 0, n, h => by unfold cnB at h; rw [Bool.and_eq_true] at h; exact h.1
 | m + 1, n, h => by unfold cnB at h; rw [Bool.and_eq_true] at h; exact h.2
theorem cn_step {b : Bd} {p : Nat -> Bool} {m n k : Nat} (h : cnB b p m n = true) (hr : b.room <= 120) (hk : k ∈ lvL b m n) (h2 : ahF b p (m + 1) k = true) : cnB b p (m + 1) k = true := by
 rw [cnB, Bool.and_eq_true, List.any_eq_true]
 have := yr h
 exact ⟨⟨n, List.mem_range.2 (by omega), by rw [h, Bool.true_and]; exact List.contains_iff_mem.2 hk⟩, h2⟩
theorem v5 {b : Bd} (ok : BedOk b) {p : Nat -> Bool} {m n : Nat} (hm : m < b.months.length) (h : cnB b p m n = true) : ∃ k, k ∈ lvL b m n /\ cnB b p (m + 1) k = true := by
 obtain ⟨k, h1, h2⟩ := ah_next hm (cn_ah h)
 have h3 := (jQ.1 h1).2
 have h4 := qz ok (n := n) hm
 refine ⟨k, h1, cn_step h ok.r2 h1 ?_⟩
 unfold ahF
 rw [h2, decide_eq_true (by omega)]; rfl
theorem gX {b : Bd} (ok : BedOk b) {p : Nat -> Bool} (h : zH b p = false) : ∀ m, m <= b.months.length -> ∃ n, n < 121 /\ cnB b p m n = true
 | 0, _ => by
   apply Classical.byContradiction
   intro hn
   have : zH b p = true := jq.2 fun n hn1 => by
    cases hc : cnB b p 0 n
    ·rfl
    ·exact absurd ⟨n, hn1, hc⟩ hn
   rw [this] at h; cases h
 | m + 1, hm => by
   obtain ⟨n, _, hn⟩ := gX ok h m (by omega)
   obtain ⟨k, _, hk⟩ := v5 ok (by omega) hn
   have := yr hk; have := ok.r2
   exact ⟨k, by omega, hk⟩
def canL (b : Bd) (m : Nat) : List Int := lstF (cnB b alwP m) 121
theorem gK {b : Bd} (h : z8 b = 0) {m : Nat} (hm : m <= b.months.length) : 0 < (canL b m).length := by
 obtain ⟨ok, h2⟩ := ky.1 h
 obtain ⟨n, h3, h4⟩ := gX ok.toBedOk h2 m hm
 exact List.length_pos_of_mem (jG.2 ⟨n, h3, h4, rfl⟩)
def bndP (b : Bd) (m : Nat) : Int × Int := ((canL b m).getD 0 default, (canL b m).getD ((canL b m).length - 1) default)
def bndL (b : Bd) : List (Int × Int) := (List.range (b.months.length + 1)).map (bndP b)
def jn (b : Bd) : AV := if z8 b ≠ 0 then .tup [.sl true [], .int .i64 (z8 b)] else .tup [.sl false (chsA (bndL b)), .int .i64 0]
theorem zcb {k : List AV -> Prop} {F : Nat -> Bool} (h : k ((vecF 121 F).map .bool)) : xspl (List.replicate 121 (.bool false)) 0 ((vecF 121 F).map .bool) k := by
 have e : List.replicate 121 (AV.bool false) = (vecF 121 fun _ => false).map .bool := by rw [zT, List.map_replicate]
 rw [e]; exact zbp h
theorem zcZ (b : Bd) (hm : b.months.length <= 100000) (hs : b.surveys.length <= 100000) : Comp Tryz.prog 122 [bedA b] (jn b) := by
 have hp := vG b hm hs
 unfold possA at hp
 unfold jn
 by_cases hE : z8 b = 0
 ·obtain ⟨ok, _⟩ := ky.1 hE
  have m2 := ok.m2
  rw [if_neg (fun h => h hE)] at hp ⊢
  have e2 : (((matF (b.months.length + 1) 121 (cnB b alwP)).map (arrF AV.bool)).length : Int) = b.months.length + 1 := by rw [List.length_map, matF, zj]; omega
  refine Comp.body (T := tab) (res := [.tmp 2, .tmp 3]) zb [] Tryz.func122 rfl (by kernel_rfl) Tryz.ntmps122 rfl (by simp only [List.length_cons, List.length_nil]; decide) (by simp only [lowL, bedL]; rfl) ?_; conv => whnf
  repeat' ((refine za.ret hp ?_); conv => whnf)
  refine Walk.nilgr 7 42 rfl ?_
  refine Walk.loopGK zb [] [(2, _), (3, _), (6, _), (17, _), (18, _)] ⟨rfl, rfl, rfl, rfl, rfl, trivial⟩ (fun i : Nat => i <= b.months.length + 1) (fun i => [(7, .gr 0 ((bndL b).take i).length), (19, natA i)]) (fun i => [.grow 42 ((bndL b).take i).isEmpty (chsA ((bndL b).take i))]) (fun i => b.months.length + 1 - i) 0 (Nat.zero_le _) rfl ⟨rfl, rfl, trivial⟩ ?_ (fun _ _ => (show (1 : Nat) <= 1 from Nat.le_refl 1)) ?_
  ·intro i _
   refine ⟨fun z hz => ?_, fun z hz => ?_⟩
   ·rw [List.mem_singleton] at hz; subst hz; exact zU _
   ·simp only [List.cons_append, List.nil_append, List.mem_cons, List.not_mem_nil, or_false] at hz
    rcases hz with rfl | rfl | rfl | rfl | rfl | rfl | rfl <;> first | rfl | exact vY b
  intro i hi
  have hbl : (bndL b).length = b.months.length + 1 := by unfold bndL; simp
  have hnx : i < b.months.length + 1 -> (bndL b).take (i + 1) = (bndL b).take i ++ [bndP b i] := fun h => by
   rw [jo (by omega)]
   congr 2
   unfold bndL
   rw [List.getD_eq_getElem?_getD, List.getElem?_map, List.getElem?_range h]; rfl
  have hli : (chsA ((bndL b).take i)).length = ((bndL b).take i).length := List.length_map _
  have hl2 : ((bndL b).take i).length = i := by rw [List.length_take]; omega
  have hls := zak (cnB b alwP i)
  have hcl : i < b.months.length + 1 -> 0 < (canL b i).length := fun h => gK hE (by omega)
  have hcl2 : (canL b i).length <= 121 := yR _ _
  have hcl3 : ((ints (canL b i)).length : Int) = (canL b i).length := by rw [zm]
  change Comp Tryz.prog _ _ (slA (canL b i)) at hls
  conv => whnf
  by_cases hlt : i < b.months.length + 1
  ·have hcl := hcl hlt
   repeat' first | ((with_reducible first | refine XBr.y fun h => ?_ | refine XBr.n fun h => ?_ | refine XBr.dec (fun h => ?_) fun h => ?_ | refine XInt.a ?_ | apply Chk.go | apply ChkA.go | apply ChkF.go | apply ChkB.go | apply zw.mk) <;> conv => whnf) | ((first | refine zh.a ?_ | refine XIx.b ?_); conv => whnf) | (with_reducible first | apply XAnd.mk | exact trivial) | (exact zd.mk rfl rfl) | (apply Walk.drawN (id := 7) zb zg [] [12] (hsC [_, _]) [_, _, _, _, _, _, _, _, _, _, _, _, _, _] (by kernel_rfl) rfl) | ((first | refine XIx.mat i rfl (by omega) rfl ?_ | refine ka rfl ?_ | refine zbG rfl ?_ | refine zcb ?_ | refine za.ret hls ?_); conv => whnf) | fail
   have e : bndP b i = ((canL b i).getD (Int.toNat 0) default, (canL b i).getD (((ints (canL b i)).length : Int) - 1).toNat default) := by
    unfold bndP
    rw [show (((ints (canL b i)).length : Int) - 1).toNat = (canL b i).length - 1 by omega]; rfl
   refine zp.go (i + 1) [.cells ((vecF 121 (cnB b alwP i)).map .bool)] (by omega) (by omega) ?_ ⟨rfl, rfl, rfl, rfl, rfl, ?_, rfl, trivial⟩
   ·rw [hnx hlt]
    show [Blk.grow _ ((bndL b).take i ++ [bndP b i]).isEmpty (((bndL b).take i ++ [bndP b i]).map prA)] ++ _ = _
    rw [zD, List.map_append, e]; rfl
   ·show some (AV.gr 0 (((bndL b).take i).length + 1)) = _
    rw [hnx hlt, List.length_append]; rfl
  ·obtain rfl : i = b.months.length + 1 := by omega
   have e : (bndL b).take (b.months.length + 1) = bndL b := List.take_of_length_le (by omega)
   rw [e] at hli ⊢
   repeat' ((with_reducible first | refine XBr.y fun h => ?_ | refine XBr.n fun h => ?_ | refine XBr.dec (fun h => ?_) fun h => ?_) <;> conv => whnf)
   have e3 : (bndL b).isEmpty = false := by unfold bndL; rw [List.range_succ]; simp
   rw [e3]
   exact ⟨Froz.tup (.cons (Froz.grow rfl hli (zU _)) (.cons (.low rfl) .nil))⟩
 ·rw [if_pos hE] at hp ⊢
  generalize z8 b = e at hp hE
  refine Comp.body (T := tab) (res := [.tmp 2, .tmp 3]) zb [] Tryz.func122 rfl (by kernel_rfl) Tryz.ntmps122 rfl (by simp only [List.length_cons, List.length_nil]; decide) (by simp only [lowL, bedL]; rfl) ?_; conv => whnf
  repeat' ((refine za.ret hp ?_); conv => whnf)
  refine Walk.loopK zb [] [(2, _), (3, _), (6, _), (17, _), (18, _)] ⟨rfl, rfl, rfl, rfl, rfl, trivial⟩ (fun _ : Unit => True) (fun _ => [(7, .sl true []), (19, .int .i64 0)]) (fun _ => []) (fun _ => 0) () trivial rfl ⟨rfl, rfl, trivial⟩ ?_
  intro _ _
  conv => whnf
  repeat' ((with_reducible first | refine XBr.y fun h => ?_ | refine XBr.n fun h => ?_ | refine XBr.dec (fun h => ?_) fun h => ?_) <;> conv => whnf)
  ·rename_i h; simp at h
  ·exact ⟨.low rfl⟩
end GA
end
section
namespace GA
open Go Go.RowKit Go.Proofs
def endP (b : Bd) (plan : List Int) : Nat -> Nat -> Int
 | 0, n => n
 | k + 1, n => if lieR b (b.months.length - (k + 1)) n - plan.getD (b.months.length - (k + 1)) 0 < 0 then lieR b (b.months.length - (k + 1)) n - plan.getD (b.months.length - (k + 1)) 0 else endP b plan k (lieR b (b.months.length - (k + 1)) n - plan.getD (b.months.length - (k + 1)) 0).toNat
theorem lieR_plan {b : Bd} {plan : List Int} {m n : Nat} (h : m < b.months.length) : lieR (zF b plan) m n = lieR b m n := by
 show zJ b.room (moB (zF b plan) m).g n (moB (zF b plan) m).pl (moB (zF b plan) m).th = _
 rw [jb h]; rfl
theorem zbm {b : Bd} {plan : List Int} : ∀ (k n : Nat), k <= b.months.length -> endW (zF b plan) k n = endP b plan k n
 | 0, n, _ => rfl
 | k + 1, n, hk => by
   by_cases h0 : 0 < b.months.length
   ·have hm : b.months.length - (k + 1) < b.months.length := by omega
    rw [endW, endP, z7, lieR_plan hm, jb hm]
    dsimp only
    rw [zbm k _ (by omega)]
   ·omega
theorem vd (b : Bd) (plan : List Int) : endR (zF b plan) = endP b plan b.months.length (zn b).toNat := by
 unfold endR
 rw [z7, zbm _ _ (Nat.le_refl _)]; rfl
theorem kG (b : Bd) (plan : List Int) (share : Int) : j6 b plan share = decide (share <= endP b plan b.months.length (zn b).toNat) := by
 unfold j6; rw [vd]
theorem zdA (n1 n2 : Bool) (xs ys : List (Int × Int)) (hx : xs.length <= 100000) : Comp Tryz.prog 236 [.sl n1 (chsA xs), .sl n2 (chsA ys)] (.bool (xs == ys)) := by
 refine Comp.body (T := tab) (res := [.tmp 4]) zb [] Tryz.func236 rfl (by kernel_rfl) Tryz.ntmps236 rfl (by simp only [List.length_cons, List.length_nil]; decide) (by simp only [lowL, AV.low, zU]; rfl) ?_; conv => whnf
 have hx2 : (chsA xs).length = xs.length := List.length_map _
 have hy2 : (chsA ys).length = ys.length := List.length_map _
 repeat' ((with_reducible first | refine XBr.y2 fun h => ?_ | refine XBr.n2 fun h => ?_ | refine XBr.bne (fun h => ?_) fun h => ?_) <;> conv => whnf)
 ·refine XOut.bool ?_
  rw [Bool.eq_iff_iff]; simp; intro e; subst e; exact h rfl
 have hl : (xs.length : Int) = ys.length := by omega
 refine Walk.loop zb [] (fun i : Nat => i <= xs.length /\ ∀ j, j < i -> xs.getD j default = ys.getD j default) (fun i => [(0, .sl n1 (chsA xs)), (1, .sl n2 (chsA ys)), (12, .int .i64 xs.length), (13, .int .i64 i)]) (fun _ => []) (fun i => xs.length - i) 0 ⟨by omega, by omega⟩ rfl ⟨rfl, rfl, by rw [<- hx2]; rfl, rfl, trivial⟩ ?_
 rintro i ⟨h2, h3⟩
 conv => whnf
 repeat' first | ((with_reducible first | refine XBr.y fun h => ?_ | refine XBr.n fun h => ?_ | refine XBr.dec (fun h => ?_) fun h => ?_ | refine XInt.a ?_ | apply Chk.go | apply ChkA.go | apply ChkF.go | apply ChkB.go | apply zw.mk) <;> conv => whnf) | (refine XIx.a ?_; conv => whnf) | (with_reducible first | apply XBr.not | apply XAnd.mk | exact trivial) | (exact zd.mk rfl rfl) | (apply Walk.drawN (id := 6) zb zg [] [] (hsU _) [_, _, _, _, _, _, _, _, _] (by kernel_rfl) rfl) | ((refine XEqA.mk ⟨[(xs.getD i default).1, (xs.getD i default).2], [(ys.getD i default).1, (ys.getD i default).2], rfl, rfl, rfl, rfl, ?_⟩); conv => whnf) | ((with_reducible refine XBr.mk' (fun h => ?_) fun h => ?_) <;> conv => whnf) | fail
 ·rename_i h
  refine zk.go (i + 1) ⟨by omega, fun j hj => ?_⟩ (by omega) rfl ⟨rfl, rfl, rfl, rfl, trivial⟩
  by_cases hji : j = i
  ·subst hji
   simp at h
   exact Prod.ext h.1 h.2
  ·exact h3 j (by omega)
 ·rename_i h
  refine XOut.bool ?_
  rw [Bool.eq_iff_iff]; simp
  intro e; subst e; simp at h
 ·refine XOut.bool ?_
  have := vI (by omega) fun j hj => h3 j (by omega)
  rw [this]; simp
def bTwo (nl : Bool) (sv : List Su) : Bd := ⟨50, 20, 2, false, [⟨10, 6, 0, 5, 0, 4⟩, ⟨10, 3, 0, 0, 0, 10⟩], nl, sv⟩
theorem two_c (nl : Bool) (sv : List Su) : Comp Tryz.prog 20 [.sl nl (sv.map suA)] (bedA (bTwo nl sv)) := by
 refine Comp.body (T := tab) (res := [.cell 2 66]) zb [] Tryz.func20 rfl (by kernel_rfl) Tryz.ntmps20 rfl (by simp only [List.length_cons, List.length_nil]; decide) (by simp only [lowL, AV.low, yO]; rfl) ?_; conv => whnf
 repeat' (refine zh.a ?_; conv => whnf)
 show XOut _ _ (bedA (bTwo nl sv)) (bedA (bTwo nl sv))
 exact ⟨.low (bedL _)⟩
theorem ww (m lo hi : Int) : Comp Tryz.prog 16 [.int .i64 m, .int .i64 lo, .int .i64 hi] (suA ⟨m, lo, hi⟩) := by
 refine Comp.body (T := tab) (res := [.cell 6 62]) zb [] Tryz.func16 rfl (by kernel_rfl) Tryz.ntmps16 rfl (by simp only [List.length_cons, List.length_nil]; decide) (by rfl) ?_; conv => whnf
 skip
 exact ⟨.low rfl⟩
theorem aw1 : jn (bTwo false [⟨1, 21, 30⟩]) = .tup [.sl false (chsA [(20, 22), (21, 23), (10, 22)]), .int .i64 0] := by
 have h1 : bedE (bTwo false [⟨1, 21, 30⟩]) = 0 := by decide +kernel
 have h2 : zH (bTwo false [⟨1, 21, 30⟩]) alwP = false := by rw [noneB_dec]; decide +kernel
 have h3 : bndL (bTwo false [⟨1, 21, 30⟩]) = [(20, 22), (21, 23), (10, 22)] := by decide +kernel
 unfold jn
 rw [ky.2 ⟨(zz _).1 h1, h2⟩, if_neg (fun h => h rfl), h3]
theorem aw2 : wy (bTwo true []) 0 20 5 1 = .tup [.int .i64 20, .int .i64 0] := rfl
theorem aw3 : kW (bTwo true []) 5 = .tup [.sl false (ints [17, 14, 5]), .int .i64 0] := by
 have h1 : zC (bTwo true []) 5 = 0 := by decide +kernel
 have h2 : flrL (bTwo true []) 5 (bTwo true []).months.length = some [17, 14, 5] := by decide +kernel
 unfold kW
 rw [h1, if_neg (fun h => h rfl), h2]
def evenG (b : Bd) (share : Int) : Nat -> Int
 | 0 => -1
 | n + 1 => if decide (share <= endP b (List.replicate b.months.length (n : Int)) b.months.length (zn b).toNat) = true then n else evenG b share n
theorem zc1 (b : Bd) (share : Int) : ∀ n, kA b share n = evenG b share n
 | 0 => rfl
 | n + 1 => by rw [kA, evenG, kG, zc1 b share n]
theorem aw4 : gB (bTwo true []) 0 = .tup [.int .i64 3, .int .i64 0] := by
 have h1 : zC (bTwo true []) 0 = 0 := by decide +kernel
 have h2 : kA (bTwo true []) 0 ((bTwo true []).room.toNat + 1) = 3 := by rw [zc1]; decide +kernel
 unfold gB
 rw [h1, if_neg (fun h => h rfl), h2, if_neg (by decide)]
theorem aw5 : ju (bTwo true []) [6, 3] 0 = .tup [.bool false, .int .i64 0] := by
 have h1 : ym (bTwo true []) [6, 3] = 0 := by decide +kernel
 have h2 : j6 (bTwo true []) [6, 3] 0 = false := by rw [kG]; decide +kernel
 have h3 : inZ 0 0 (bTwo true []).room = true := by decide +kernel
 unfold ju
 rw [h1, if_neg (fun h => h rfl), h3, if_neg (by simp), h2]
theorem eq_span (n1 n2 : Bool) (xs ys : List (Int × Int)) (hx : xs.length <= 100000) : Comp Tryz.prog 152 [.sl n1 (chsA xs), .sl n2 (chsA ys)] (.bool (xs == ys)) := by
 refine Comp.body (T := tab) (res := [.tmp 4]) zb [] Tryz.func152 rfl (by kernel_rfl) Tryz.ntmps152 rfl (by simp only [List.length_cons, List.length_nil]; decide) (by simp only [lowL, AV.low, zU]; rfl) ?_; conv => whnf
 refine za.ret (zdA n1 n2 xs ys hx) ?_
 conv => whnf
 exact XOut.bool rfl
theorem zr : Comp Tryz.prog 27 [] (.bool true) := by
 have c1 := zcZ (bTwo false [⟨1, 21, 30⟩]) (by decide) (by decide)
 rw [aw1] at c1
 have c2 := qy (bTwo true []) 0 20 5 1 (by decide) (by decide)
 rw [aw2] at c2
 have c3 := gx (bTwo true []) 5 (by decide) (by decide)
 rw [aw3] at c3
 have c4 := even_c (bTwo true []) 0 (by decide) (by decide)
 rw [aw4] at c4
 have c5 := zbM (bTwo true []) false [6, 3] 0 (by decide) (by decide) (by decide)
 rw [aw5] at c5
 have e1 : Comp Tryz.prog 152 [.sl false (chsA [(20, 22), (21, 23), (10, 22)]), .sl false (chsA [(20, 22), (21, 23), (10, 22)])] (.bool true) := eq_span false false _ _ (by decide)
 have e2 : Comp Tryz.prog 46 [.sl false (ints [17, 14, 5]), .sl false (ints [17, 14, 5])] (.bool true) := kL false false _ _ (by decide)
 have t1 := two_c false [⟨1, 21, 30⟩]
 have t2 := two_c true []
 generalize bTwo false [⟨1, 21, 30⟩] = b1 at *
 generalize bTwo true [] = b2 at *
 refine Comp.body (T := tab) (res := [.tmp 0]) zb [] Tryz.func27 rfl (by kernel_rfl) Tryz.ntmps27 rfl (by simp only [List.length_cons, List.length_nil]; decide) (by rfl) ?_; conv => whnf
 repeat' ((first | refine zh.a ?_ | refine za.ret (ww 1 21 30) ?_ | refine za.ret t1 ?_ | refine za.ret t2 ?_ | refine za.ret c1 ?_ | refine za.ret c2 ?_ | refine za.ret c3 ?_ | refine za.ret c4 ?_ | refine za.ret c5 ?_); conv => whnf)
 refine Walk.norm zb [] [(1, _), (2, _), (3, _), (4, _), (5, _), (6, _), (7, _), (8, _), (9, _), (10, _)] ⟨rfl, rfl, rfl, rfl, rfl, rfl, rfl, rfl, rfl, rfl, trivial⟩ ?_
 conv => whnf
 repeat' first | ((with_reducible first | apply XBr.tt | refine XBr.y1 fun h => ?_ | refine XBr.n1 fun h => ?_ | refine XBr.beq (fun h => ?_) fun h => ?_) <;> conv => whnf) | ((first | refine zh.a ?_ | refine za.ret e1 ?_ | refine za.ret e2 ?_); conv => whnf) | fail
 exact ⟨.low rfl⟩
end GA
end
section
namespace GA
open Go Go.RowKit Go.Proofs
def mxB (n : Nat) : Bd := ⟨3, 1, 0, (List.replicate n (⟨0, 0, 0, 1, 0, 0⟩ : Mo)).isEmpty, List.replicate n ⟨0, 0, 0, 1, 0, 0⟩, true, []⟩
def sxB (k : Int) (n : Nat) : Bd := bTwo (List.replicate n (⟨2, k, 50⟩ : Su)).isEmpty (List.replicate n ⟨2, k, 50⟩)
theorem mxB_E : ∀ n, n < 12 -> (bedE (mxB n) = 0 ↔ 0 < n /\ n < 11) := by decide +kernel
theorem sxB_E : ∀ n, n < 12 -> ∀ k : Nat, k < 3 -> (bedE (sxB k n) = 0 ↔ n < 9) := by decide +kernel
end GA
end
section
namespace GA
open Go Go.RowKit Go.Proofs
structure zaX : Prop where
 asked : ∀ (b : Bd) (month amount : Int) (c : Int × Int) (n1 n2 : Bool) (course plan : List Int) (share : Int), course.length <= 1000 -> plan.length <= 1000 -> Comp Tryz.prog 17 [bedA b, .int .i64 month, .int .i64 amount, prA c, .sl n1 (ints course), .sl n2 (ints plan), .int .i64 share] (.bool true)
 months : ∀ (b : Bd) (month amount : Int) (c : Int × Int), Comp Tryz.prog 21 [bedA b, .int .i64 month, .int .i64 amount, prA c] (.bool true)
 can : ∀ (b : Bd) (month amount : Int), Comp Tryz.prog 22 [bedA b, .int .i64 month, .int .i64 amount] (.bool true)
 keeps : ∀ (b : Bd) (nl : Bool) (plan : List Int) (share : Int), plan.length <= 1000 -> Comp Tryz.prog 23 [bedA b, .sl nl (ints plan), .int .i64 share] (.bool true)
 floors : ∀ (b : Bd) (nl : Bool) (floor : List Int) (share : Int), floor.length <= 1000 -> Comp Tryz.prog 24 [bedA b, .sl nl (ints floor), .int .i64 share] (.bool true)
 courses : ∀ (b : Bd) (nl : Bool) (c : List Int), c.length <= 1000 -> Comp Tryz.prog 25 [bedA b, .sl nl (ints c)] (.bool true)
theorem smEnd (L : zaX) : XRun Tryz.prog tab 420 none [55, 68, 71, 74, 75] (tailC 5 (theC Tryz.f4.body)) (XFn Tryz.prog tab [.tmp 0] (.bool true)) [] (stX []) [] := by
 /-
 refine Comp.body (T := tab) (res := [.tmp 0]) zb [] Tryz.func4 rfl (by kernel_rfl) Tryz.ntmps4 rfl (by simp only [List.length_cons, List.length_nil]; decide) (by rfl) ?_; conv => whnf
 -/
 have t1 := two_c true []
 have t2 := two_c false [⟨1, 21, 30⟩, ⟨2, 0, 5⟩]
 have a1 := L.asked (bTwo true []) 1 9 (0, 10) false false [18, 9, 0] [6, 0] 0 (by decide) (by decide)
 have a2 := L.asked (bTwo false [⟨1, 21, 30⟩, ⟨2, 0, 5⟩]) 2 5 (0, 0) false false [20, 21, 10] [0, 1] 5 (by decide) (by decide)
 have a3 := L.months ⟨0, 0, 0, true, [], true, []⟩ 0 0 (0, 0)
 have f1 := ww 1 21 30
 have f2 := ww 2 0 5
 conv => whnf
 refine Walk.norm zb [] [] trivial ?_
 conv => whnf
 repeat' first | ((first | (with_reducible apply XBr.tt) | (first | refine zh.a ?_ | refine za.ret t1 ?_ | refine za.ret t2 ?_ | refine za.ret a1 ?_ | refine za.ret a2 ?_ | refine za.ret a3 ?_ | refine za.ret f1 ?_ | refine za.ret f2 ?_ | refine za.ret zr ?_)); conv => whnf) | fail
 all_goals exact XOut.bool rfl
end GA
end
section
namespace GA
open Go Go.RowKit Go.Proofs
set_option maxHeartbeats 4000000 in
theorem smMany (L : zaX) : XRun Tryz.prog tab 420 none [55, 68, 71, 74, 75] (tailC 4 (theC Tryz.f4.body)) (XFn Tryz.prog tab [.tmp 0] (.bool true)) [] (stX []) [] := by
 /-
 refine Comp.body (T := tab) (res := [.tmp 0]) zb [] Tryz.func4 rfl (by kernel_rfl) Tryz.ntmps4 rfl (by simp only [List.length_cons, List.length_nil]; decide) (by rfl) ?_; conv => whnf
 -/
 have t1 := two_c true []
 conv => whnf
 refine Walk.thenKeep ?_
 refine Walk.loopGK zb [] [] trivial (fun n : Nat => n <= 12) (fun n => [(307, natA n)]) (fun _ => []) (fun n => 12 - n) 0 (Nat.zero_le _) rfl ⟨rfl, trivial⟩ ?_ (fun _ _ => Nat.le_refl _) ?_
 ·intro n _
  refine ⟨fun z hz => (by cases hz), fun z hz => ?_⟩
  simp only [List.cons_append, List.nil_append, List.mem_cons, List.not_mem_nil, or_false] at hz
  subst hz; rfl
 intro n hn
 conv => whnf
 by_cases hn12 : n < 12
 ·skip
  repeat' first | ((with_reducible first | refine XBr.y fun h => ?_ | refine XBr.n fun h => ?_ | refine XBr.dec (fun h => ?_) fun h => ?_) <;> conv => whnf) | ((refine za.ret t1 ?_); conv => whnf) | fail
  refine Walk.nilcell 0 3 59 rfl rfl ?_
  refine Walk.nilcell 1 4 62 rfl rfl ?_
  refine Walk.thenKeep ?_
  refine Walk.loopK zb [] [(25, _), (26, _), (27, _), (307, _), (312, _)] ⟨rfl, rfl, rfl, rfl, rfl, trivial⟩ (fun j : Nat => j <= n) (fun j => [(313, natA j)]) (fun j => [.cells [.int .i64 3, .int .i64 1, .int .i64 0, .gr 2 j, .sl true []], .cells [.int .i64 50, .int .i64 20, .int .i64 2, .sl false ((bTwo true []).months.map moA), .gr 3 j], .grow 59 (List.replicate j (⟨0, 0, 0, 1, 0, 0⟩ : Mo)).isEmpty ((List.replicate j (⟨0, 0, 0, 1, 0, 0⟩ : Mo)).map moA), .grow 62 (List.replicate j (⟨2, n % 3, 50⟩ : Su)).isEmpty ((List.replicate j (⟨2, n % 3, 50⟩ : Su)).map suA)]) (fun j => n - j) 0 (Nat.zero_le _) rfl ⟨rfl, trivial⟩ ?_
  intro j hj
  by_cases hjn : j < n
  ·have hx1 : List.replicate (j + 1) (⟨0, 0, 0, 1, 0, 0⟩ : Mo) = List.replicate j ⟨0, 0, 0, 1, 0, 0⟩ ++ [⟨0, 0, 0, 1, 0, 0⟩] := List.replicate_succ'
   have hx2 : List.replicate (j + 1) (⟨2, n % 3, 50⟩ : Su) = List.replicate j ⟨2, n % 3, 50⟩ ++ [⟨2, n % 3, 50⟩] := List.replicate_succ'
   have hr1 : ((List.replicate j (⟨0, 0, 0, 1, 0, 0⟩ : Mo)).map moA).length = j := by rw [List.length_map, List.length_replicate]
   have hr2 : ((List.replicate j (⟨2, n % 3, 50⟩ : Su)).map suA).length = j := by rw [List.length_map, List.length_replicate]
   have fd := ww 2 ((n : Int) % 3) 50
   have htm : (n : Int).tmod 3 = (n : Int) % 3 := Int.tmod_eq_emod_of_nonneg (by omega)
   obtain ⟨E1, hE1⟩ : ∃ E, E = List.replicate j (⟨0, 0, 0, 1, 0, 0⟩ : Mo) := ⟨_, rfl⟩
   obtain ⟨E2, hE2⟩ : ∃ E, E = List.replicate j (⟨2, n % 3, 50⟩ : Su) := ⟨_, rfl⟩
   rw [<- hE1] at hx1 hr1 ⊢
   rw [<- hE2] at hx2 hr2 ⊢
   have hl1 : E1.length = j := by rw [List.length_map] at hr1; exact hr1
   have hl2 : E2.length = j := by rw [List.length_map] at hr2; exact hr2
   clear hE1 hE2
   conv => whnf
   repeat' first | ((with_reducible first | refine XBr.y fun h => ?_ | refine XBr.n fun h => ?_ | refine XBr.dec (fun h => ?_) fun h => ?_ | refine XInt.a ?_ | apply Chk.go | apply ChkA.go | apply ChkF.go | apply ChkB.go | apply zw.mk) <;> conv => whnf) | (refine zh.a ?_; conv => whnf) | (with_reducible first | apply XAnd.mk | exact trivial) | (exact zd.mk rfl rfl) | (apply Walk.drawN (id := 48) zb zg [] [6, 8] (hsC [_, _, _]) [_, _, _, _, _, _, _, _, _] (by kernel_rfl) rfl) | ((rw [htm]; refine za.ret fd ?_); conv => whnf) | fail
   refine zk.go (j + 1) (by omega) (by omega) ?_ ⟨rfl, rfl, rfl, rfl, rfl, rfl, trivial⟩
   rw [hx1, hx2, zD, zD, List.map_append, List.map_append]; rfl
  obtain rfl : j = n := by omega
  conv => whnf
  repeat' ((with_reducible first | refine XBr.y fun h => ?_ | refine XBr.n fun h => ?_ | refine XBr.dec (fun h => ?_) fun h => ?_) <;> conv => whnf)
  refine w6.go [] _ [(25, natA j), (26, .pim (bedC (mxB j))), (27, .pim (bedC (sxB ((j : Int) % 3) j))), (307, natA j)] rfl (fun x hx => by cases hx) ⟨⟨_, rfl, .same rfl⟩, ⟨_, rfl, .all (Froz.ptr rfl (by intro v hv; simp only [bedC, List.mem_cons, List.not_mem_nil, or_false] at hv; rcases hv with rfl | rfl | rfl | rfl | rfl <;> rfl) (.cons (.low rfl) (.cons (.low rfl) (.cons (.low rfl) (.cons (Froz.grow rfl ((List.length_map _).trans List.length_replicate) (yn _)) (.cons (.low rfl) .nil))))))⟩, ⟨_, rfl, .all (Froz.ptr rfl (by intro v hv; simp only [bedC, List.mem_cons, List.not_mem_nil, or_false] at hv; rcases hv with rfl | rfl | rfl | rfl | rfl <;> rfl) (.cons (.low rfl) (.cons (.low rfl) (.cons (.low rfl) (.cons (.low (yn _)) (.cons (Froz.grow rfl ((List.length_map _).trans List.length_replicate) (yO _)) .nil))))))⟩, ⟨_, rfl, .same rfl⟩, trivial⟩ ?_
  refine jP ?_
  conv => whnf
  have m1 := L.months (mxB j) ((j : Int) - 1) 3 (0, 0)
  have m2 := L.can (mxB j) j 3
  have m3 := L.months (sxB ((j : Int) % 3) j) 0 50 (0, 0)
  have m4 := L.can (sxB ((j : Int) % 3) j) 2 j
  have k1 : Comp Tryz.prog 23 [bedA (mxB j), .sl false (List.replicate (j : Int).toNat (.int .i64 0)), .int .i64 1] (.bool true) := by
   have h := L.keeps (mxB j) false (List.replicate (j : Int).toNat 0) 1 (by rw [List.length_replicate]; omega)
   rw [ints, List.map_replicate] at h; exact h
  have k2 : Comp Tryz.prog 24 [bedA (mxB j), .sl false (List.replicate ((j : Int) + 1).toNat (.int .i64 0)), .int .i64 1] (.bool true) := by
   have h := L.floors (mxB j) false (List.replicate ((j : Int) + 1).toNat 0) 1 (by rw [List.length_replicate]; omega)
   rw [ints, List.map_replicate] at h; exact h
  have k3 : Comp Tryz.prog 25 [bedA (mxB j), .sl false (List.replicate ((j : Int) + 1).toNat (.int .i64 0))] (.bool true) := by
   have h := L.courses (mxB j) false (List.replicate ((j : Int) + 1).toNat 0) (by rw [List.length_replicate]; omega)
   rw [ints, List.map_replicate] at h; exact h
  have lowRep : ∀ n k : Nat, lowL n (List.replicate k (AV.int .i64 0)) = true := fun n k => zA.2 fun x hx => by rw [List.eq_of_mem_replicate hx]; rfl
  refine Walk.place (Walk.place (Walk.place ?_))
  apply Walk.drawX zb zg [] [15, 23, 31] (fun fl => match fl with
   | [x, y, z] => [.dead, .dead, .dead, .dead, (bif x then .grow 3 false (List.replicate (j : Int).toNat (.int .i64 0)) else .free), (bif y then .grow 3 false (List.replicate ((j : Int) + 1).toNat (.int .i64 0)) else .free), (bif z then .grow 3 false (List.replicate ((j : Int) + 1).toNat (.int .i64 0)) else .free)]
   | _ => []) [_, _, _, _, _, _, _, _, _, _, _, _, _, _, _, .gr 4 (j : Int).toNat, _, _, _, _, _, _, _, .gr 5 ((j : Int) + 1).toNat, _, _, _, _, _, _, _, .gr 6 ((j : Int) + 1).toNat, _, _, _, _, _, _, _, _, _, _, _, _, _, _, _] (lex_of (by kernel_rfl)) rfl
  ·skip
   repeat' first | ((with_reducible first | apply XBr.tt | refine XInt.a ?_ | apply Chk.go | apply ChkA.go); conv => whnf) | (refine zh.a ?_; conv => whnf) | (with_reducible first | apply XBr.not | apply XAnd.mk | exact trivial) | (exact zd.mk rfl rfl) | ((first | refine za.ret m1 ?_ | refine za.ret m2 ?_ | refine za.ret m3 ?_ | refine za.ret m4 ?_); conv => whnf) | (first | ((refine zq.at 4 rfl ?_); (conv => whnf); exact zd.mk rfl rfl) | ((refine zq.at 5 rfl ?_); (conv => whnf); exact zd.mk rfl rfl) | ((refine zq.at 6 rfl ?_); (conv => whnf); exact zd.mk rfl rfl)) | ((first | refine za.lend k1 (.cons (.low (show (bedA (mxB j)).low 0 = true from bedL _)) (.cons (Froz.grow (i := 4) rfl List.length_replicate (lowRep _ _)) (.cons (.low rfl) .nil))) rfl ?_ | refine za.lend k2 (.cons (.low (show (bedA (mxB j)).low 0 = true from bedL _)) (.cons (Froz.grow (i := 5) rfl List.length_replicate (lowRep _ _)) (.cons (.low rfl) .nil))) rfl ?_ | refine za.lend k3 (.cons (.low (show (bedA (mxB j)).low 0 = true from bedL _)) (.cons (Froz.grow (i := 6) rfl List.length_replicate (lowRep _ _)) .nil)) rfl ?_); conv => whnf) | fail
  ·skip
   repeat' first | ((with_reducible first | apply XBr.tt | refine XInt.a ?_ | apply Chk.go | apply ChkF.go | apply ChkB.go); conv => whnf) | (refine zh.a ?_; conv => whnf) | (with_reducible first | apply XBr.not | apply XAnd.mk | exact trivial) | (exact zd.mk rfl rfl) | ((first | refine za.ret m1 ?_ | refine za.ret m2 ?_ | refine za.ret m3 ?_ | refine za.ret m4 ?_); conv => whnf) | (first | ((refine zq.at 4 rfl ?_); (conv => whnf); exact zd.mk rfl rfl) | ((refine zq.at 5 rfl ?_); (conv => whnf); exact zd.mk rfl rfl) | ((refine zq.at 6 rfl ?_); (conv => whnf); exact zd.mk rfl rfl)) | ((first | refine za.lend k1 (.cons (.low (show (bedA (mxB j)).low 0 = true from bedL _)) (.cons (Froz.grow (i := 4) rfl List.length_replicate (lowRep _ _)) (.cons (.low rfl) .nil))) rfl ?_ | refine za.lend k2 (.cons (.low (show (bedA (mxB j)).low 0 = true from bedL _)) (.cons (Froz.grow (i := 5) rfl List.length_replicate (lowRep _ _)) (.cons (.low rfl) .nil))) rfl ?_ | refine za.lend k3 (.cons (.low (show (bedA (mxB j)).low 0 = true from bedL _)) (.cons (Froz.grow (i := 6) rfl List.length_replicate (lowRep _ _)) .nil)) rfl ?_); conv => whnf) | fail
  conv => whnf
  have c1 := ki (mxB j) (show (List.replicate j _).length <= 100000 by rw [List.length_replicate]; omega) (Nat.zero_le _)
  have c2 := ki (sxB ((j : Int) % 3) j) (show 2 <= 100000 by decide) (show (List.replicate j _).length <= 100000 by rw [List.length_replicate]; omega)
  have hE1 := mxB_E j hn12
  have hE2 := sxB_E j hn12 (j % 3) (by omega)
  rw [show ((j % 3 : Nat) : Int) = (j : Int) % 3 by omega] at hE2
  generalize bedE (mxB j) = E1 at c1 hE1
  generalize bedE (sxB ((j : Int) % 3) j) = E2 at c2 hE2
  have hcs : j = 0 \/ (0 < j /\ j < 9) \/ (9 <= j /\ j < 11) \/ 11 <= j := by omega
  rcases hcs with hc | hc | hc | hc
  ·have b1 : (E1 == 0) = false := beq_eq_false_iff_ne.2 fun h => by have := hE1.1 h; omega
   have b2 : (E2 == 0) = true := beq_iff_eq.2 (hE2.2 (by omega))
   repeat' first | ((with_reducible first | apply XBr.tt | apply XBr.ff | refine XBr.y fun h => ?_ | refine XBr.n fun h => ?_ | refine XBr.dec (fun h => ?_) fun h => ?_ | refine XInt.a ?_) <;> conv => whnf) | with_reducible apply XBr.not | ((first | (with_reducible refine XBr.no (by decide) ?_) | refine za.ret c1 ?_ | refine za.ret c2 ?_); conv => whnf) | (rw [b1]; conv => whnf) | (rw [b2]; conv => whnf) | ((with_reducible refine XBr.mk' (fun h => ?_) fun h => ?_) <;> conv => whnf) | fail
   all_goals first | exact zp.go (j + 1) _ (by omega) (by omega) rfl ⟨rfl, trivial⟩ | (exfalso; simp at h; omega)
  ·have b1 : (E1 == 0) = true := beq_iff_eq.2 (hE1.2 (by omega))
   have b2 : (E2 == 0) = true := beq_iff_eq.2 (hE2.2 (by omega))
   repeat' first | ((with_reducible first | apply XBr.tt | apply XBr.ff | refine XBr.y fun h => ?_ | refine XBr.n fun h => ?_ | refine XBr.dec (fun h => ?_) fun h => ?_ | refine XInt.a ?_) <;> conv => whnf) | with_reducible apply XBr.not | ((first | refine za.ret c1 ?_ | refine za.ret c2 ?_); conv => whnf) | (rw [b1]; conv => whnf) | (rw [b2]; conv => whnf) | ((with_reducible refine XBr.mk' (fun h => ?_) fun h => ?_) <;> conv => whnf) | fail
   all_goals first | exact zp.go (j + 1) _ (by omega) (by omega) rfl ⟨rfl, trivial⟩ | (exfalso; simp at h; omega)
  ·have b1 : (E1 == 0) = true := beq_iff_eq.2 (hE1.2 (by omega))
   have b2 : (E2 == 0) = false := beq_eq_false_iff_ne.2 fun h => by have := hE2.1 h; omega
   repeat' first | ((with_reducible first | apply XBr.tt | apply XBr.ff | refine XBr.y fun h => ?_ | refine XBr.n fun h => ?_ | refine XBr.dec (fun h => ?_) fun h => ?_ | refine XInt.a ?_) <;> conv => whnf) | with_reducible apply XBr.not | ((first | refine za.ret c1 ?_ | refine za.ret c2 ?_); conv => whnf) | (rw [b1]; conv => whnf) | (rw [b2]; conv => whnf) | ((with_reducible refine XBr.mk' (fun h => ?_) fun h => ?_) <;> conv => whnf) | fail
   all_goals first | exact zp.go (j + 1) _ (by omega) (by omega) rfl ⟨rfl, trivial⟩ | (exfalso; simp at h; omega)
  ·have b1 : (E1 == 0) = false := beq_eq_false_iff_ne.2 fun h => by have := hE1.1 h; omega
   have b2 : (E2 == 0) = false := beq_eq_false_iff_ne.2 fun h => by have := hE2.1 h; omega
   repeat' first | ((with_reducible first | apply XBr.tt | apply XBr.ff | refine XBr.y fun h => ?_ | refine XBr.n fun h => ?_ | refine XBr.dec (fun h => ?_) fun h => ?_ | refine XInt.a ?_) <;> conv => whnf) | with_reducible apply XBr.not | ((first | refine za.ret c1 ?_ | refine za.ret c2 ?_); conv => whnf) | (rw [b1]; conv => whnf) | (rw [b2]; conv => whnf) | ((with_reducible refine XBr.mk' (fun h => ?_) fun h => ?_) <;> conv => whnf) | fail
   all_goals first | exact zp.go (j + 1) _ (by omega) (by omega) rfl ⟨rfl, trivial⟩ | (exfalso; simp at h; omega)
 ·obtain rfl : n = 12 := by omega
  repeat' ((with_reducible first | refine XBr.y fun h => ?_ | refine XBr.n fun h => ?_ | refine XBr.dec (fun h => ?_) fun h => ?_) <;> conv => whnf)
  refine w6.go [] _ [] rfl (fun x hx => by cases hx) trivial ?_
  refine jP ?_
  exact smEnd L
end GA
end
section
namespace GA
open Go Go.RowKit Go.Proofs
theorem tmI {x k : Int} (hx : 0 <= x) (hk : 0 < k) : 0 <= x.tmod k /\ x.tmod k < k := by
 rw [Int.tmod_eq_emod_of_nonneg hx]
 exact ⟨Int.emod_nonneg _ (by omega), Int.emod_lt_of_pos _ hk⟩
theorem tdI {x k : Int} (hx : 0 <= x) (hk : 0 < k) : 0 <= x.tdiv k /\ x.tdiv k <= x := by
 rw [Int.tdiv_eq_ediv_of_nonneg hx]
 exact ⟨Int.ediv_nonneg hx (by omega), Int.ediv_le_self _ hx⟩
structure GivesB : Prop where
 course : ∀ b : Bd, bedE b = 0 -> (b.nls = true -> b.surveys = []) -> ∀ m n : Int, 0 <= m -> m <= b.months.length -> 0 <= n -> n <= b.room ->
  (∃ e, Comp Tryz.prog 18 [bedA b, .int .i64 m, .int .i64 n] (.tup [.sl true [], .int .i64 e])) \/
  ∃ l : List Int, 0 < l.length /\ l.length <= 1000 /\ (∀ x ∈ l, 0 <= x /\ x <= 1000) /\ yz Tryz.prog 18 [bedA b, .int .i64 m, .int .i64 n] (.tup [.gr 0 l.length, .int .i64 0]) [.grow 3 false (ints l)]
 most : ∀ b : Bd, bedE b = 0 -> ∀ n : Int, 0 <= n -> n <= b.room ->
  (∃ e, Comp Tryz.prog 19 [bedA b, .int .i64 n] (.tup [.sl true [], .int .i64 e])) \/
  ∃ l : List Int, 0 < l.length /\ l.length <= 1000 /\ (∀ x ∈ l, 0 <= x /\ x <= 1000) /\ yz Tryz.prog 19 [bedA b, .int .i64 n] (.tup [.gr 0 l.length, .int .i64 0]) [.grow 3 false (ints l)]
theorem za.giveInts {P : Program} {f : FuncId} {rs : List AV} {te n : Nat} {nl : Bool} {l : List Int} {e : Int} {H : List Blk} {k : AV -> List Blk -> Prop} (j : Nat) (H' : List Blk) (hj : H.length = j) (hH : H ++ [.grow te nl (ints l)] = H')
  (x : yz P f rs (.tup [.gr 0 n, .int .i64 e]) [.grow te nl (ints l)]) (hk : k (.tup [.gr j n, .int .i64 e]) H') : za P f rs H k := by
 subst hj; subst hH
 refine za.give x ?_
 rw [show ([Blk.grow te nl (ints l)] : List Blk).map (Blk.ren (H.length + ·)) = [.grow te nl (ints l)] from congrArg (fun y => [y]) (jM _ _ _ _)]
 exact hk
theorem za.giveAtInts {P : Program} {f : FuncId} {rs : List AV} {te n : Nat} {nl : Bool} {l : List Int} {e : Int} {H : List Blk} {k : AV -> List Blk -> Prop} (i : Nat) (hi : lget H i = some .free) (H' : List Blk) (hH : H.set i (.grow te nl (ints l)) = H')
  (x : yz P f rs (.tup [.gr 0 n, .int .i64 e]) [.grow te nl (ints l)]) (hk : k (.tup [.gr i n, .int .i64 e]) H') : za P f rs H k := by
 subst hH
 refine za.giveAt i hi x ?_
 rw [jM]
 exact hk
def Mo40 (m : Mo) : Prop := 0 <= m.g /\ m.g <= 100 /\ 0 <= m.r /\ m.r <= 4 /\ 0 <= m.pl /\ m.pl <= m.ph /\ m.ph <= 60 /\ 0 <= m.tl /\ m.tl <= m.th /\ m.th <= 60
set_option maxHeartbeats 4000000 in
theorem smBeds (L : zaX) (G : GivesB) : XRun Tryz.prog tab 420 none [55, 68, 71, 74, 75] (tailC 3 (theC Tryz.f4.body)) (XFn Tryz.prog tab [.tmp 0] (.bool true)) [] (stX []) [] := by
 /-
 refine Comp.body (T := tab) (res := [.tmp 0]) zb [] Tryz.func4 rfl (by kernel_rfl) Tryz.ntmps4 rfl (by simp only [List.length_cons, List.length_nil]; decide) (by rfl) ?_; conv => whnf
 -/
 conv => whnf
 refine Walk.thenKeep ?_
 refine Walk.loopGK zb [] [] trivial (fun n : Nat => n <= 40) (fun n => [(145, natA n)]) (fun _ => []) (fun n => 40 - n) 0 (Nat.zero_le _) rfl ⟨rfl, trivial⟩ ?_ (fun _ _ => Nat.le_refl _) ?_
 ·intro n _
  refine ⟨fun z hz => (by cases hz), fun z hz => ?_⟩
  simp only [List.cons_append, List.nil_append, List.mem_cons, List.not_mem_nil, or_false] at hz
  subst hz; rfl
 intro n hn
 have b8 := tmI (x := n) (k := 8) (by omega) (by omega)
 have b5 := tmI (x := n) (k := 5) (by omega) (by omega)
 have b3 := tmI (x := n) (k := 3) (by omega) (by omega)
 have b4 := tmI (x := n) (k := 4) (by omega) (by omega)
 have b33 := tmI (x := (n : Int).tdiv 3) (k := 3) (tdI (by omega) (by omega)).1 (by omega)
 have b23 := tmI (x := (n : Int).tdiv 2) (k := 3) (tdI (by omega) (by omega)).1 (by omega)
 have d3 := tdI (x := n) (k := 3) (by omega) (by omega)
 have d2 := tdI (x := n) (k := 2) (by omega) (by omega)
 conv => whnf
 by_cases hn40 : n < 40
 ·skip
  repeat' first | ((with_reducible first | refine XBr.y fun h => ?_ | refine XBr.n fun h => ?_ | refine XBr.dec (fun h => ?_) fun h => ?_ | refine XInt.a ?_) <;> conv => whnf) | (refine zh.a ?_; conv => whnf) | fail
  refine Walk.nilcell 0 3 59 rfl rfl ?_
  refine Walk.nilcell 0 4 62 rfl rfl ?_
  refine Walk.loopK zb [] [(14, _), (15, _), (145, _), (158, _)] ⟨rfl, rfl, rfl, rfl, trivial⟩ (fun g : Nat × List Mo => (g.1 : Int) <= 1 + (n : Int).tmod 3 /\ g.2.length = g.1 /\ ∀ m ∈ g.2, Mo40 m) (fun g => [(159, natA g.1)]) (fun g => [.cells [.int .i64 (4 + (n : Int).tmod 8), .int .i64 ((n : Int).tmod 5), .int .i64 ((n : Int).tmod 3), .gr 1 g.1, .gr 2 0], .grow 59 g.2.isEmpty (g.2.map moA), .grow 62 true []]) (fun g => (1 + (n : Int).tmod 3).toNat - g.1) (0, []) ⟨by dsimp only; omega, rfl, fun x hx => by cases hx⟩ rfl ⟨rfl, trivial⟩ ?_
  rintro ⟨j, ms⟩ ⟨hj, hl, hms⟩
  dsimp only at hj hl hms ⊢
  have c1 := tdI (x := n) (k := (j : Int) + 1) (by omega) (by omega)
  have c2 := tdI (x := n) (k := (j : Int) + 2) (by omega) (by omega)
  have c3 := tmI (x := (n : Int).tdiv ((j : Int) + 1)) (k := 3) c1.1 (by omega)
  have c4 := tmI (x := (n : Int).tdiv ((j : Int) + 2)) (k := 3) c2.1 (by omega)
  have hr1 : (ms.map moA).length = j := by rw [List.length_map]; exact hl
  conv => whnf
  by_cases hlt : (j : Int) < 1 + (n : Int).tmod 3
  ·skip
   repeat' first | ((with_reducible first | refine XBr.y fun h => ?_ | refine XBr.n fun h => ?_ | refine XBr.dec (fun h => ?_) fun h => ?_ | refine XInt.a ?_ | apply Chk.go | apply ChkA.go | apply ChkF.go | apply ChkB.go | apply zw.mk) <;> conv => whnf) | (refine zh.a ?_; conv => whnf) | (with_reducible first | apply XAnd.mk | exact trivial) | (exact zd.mk rfl rfl) | (apply Walk.drawN (id := 23) zb zg [] [] (hsU _) [_, _, _, _, _, _, _, _, _, _, _, _] (by kernel_rfl) rfl) | fail
   refine zk.go (j + 1, ms ++ [⟨25 * (n : Int).tmod 4, ((n : Int).tdiv 3).tmod 3, ((n : Int).tdiv ((j : Int) + 1)).tmod 3, ((n : Int).tdiv ((j : Int) + 1)).tmod 3 + (n : Int).tmod 3, ((n : Int).tdiv ((j : Int) + 2)).tmod 3, ((n : Int).tdiv ((j : Int) + 2)).tmod 3 + ((n : Int).tdiv 2).tmod 3⟩]) ⟨by dsimp only; omega, by dsimp only; rw [List.length_append, hl]; rfl, fun m hm => ?_⟩ (by dsimp only; omega) ?_ ⟨rfl, rfl, rfl, rfl, rfl, trivial⟩
   ·rcases List.mem_append.1 hm with hm | hm
    ·exact hms m hm
    ·rw [List.mem_singleton] at hm; subst hm; unfold Mo40; dsimp only; omega
   ·dsimp only
    rw [zD, List.map_append]; rfl
  repeat' first | ((with_reducible first | refine XBr.y fun h => ?_ | refine XBr.n fun h => ?_ | refine XBr.dec (fun h => ?_) fun h => ?_) <;> conv => whnf) | (refine zh.a ?_; conv => whnf) | fail
  have hj1 : 1 <= j := by omega
  have hme : ms.isEmpty = false := by cases ms with | nil => simp at hl; omega | cons _ _ => rfl
  clear c1 c2 c3 c4
  refine Walk.thenKeep ?_
  refine Walk.loopK zb [] [(14, _), (15, _), (145, _), (199, _)] ⟨rfl, rfl, rfl, rfl, trivial⟩ (fun g : Nat × List Su => (g.1 : Int) <= (n : Int).tmod 5 /\ g.2.length = g.1 /\ ∀ s ∈ g.2, 0 <= s.m /\ s.m <= j /\ 0 <= s.lo /\ s.lo <= s.hi /\ s.hi <= 4 + (n : Int).tmod 8) (fun g => [(200, natA g.1)]) (fun g => [.cells [.int .i64 (4 + (n : Int).tmod 8), .int .i64 ((n : Int).tmod 5), .int .i64 ((n : Int).tmod 3), .gr 1 j, .gr 2 g.1], .grow 59 ms.isEmpty (ms.map moA), .grow 62 g.2.isEmpty (g.2.map suA)]) (fun g => ((n : Int).tmod 5).toNat - g.1) (0, []) ⟨by dsimp only; omega, rfl, fun x hx => by cases hx⟩ rfl ⟨rfl, trivial⟩ ?_
  rintro ⟨k, ss⟩ ⟨hk, hsl, hss⟩
  dsimp only at hk hsl hss ⊢
  have c1 := tdI (x := n) (k := (k : Int) + 1) (by omega) (by omega)
  have c3 := tmI (x := (n : Int).tdiv ((k : Int) + 1)) (k := 4) c1.1 (by omega)
  have c4 := tmI (x := (n : Int).tdiv ((k : Int) + 1)) (k := (j : Int) + 1) c1.1 (by omega)
  have hr2 : (ss.map suA).length = k := by rw [List.length_map]; exact hsl
  conv => whnf
  by_cases hlk : (k : Int) < (n : Int).tmod 5
  ·skip
   repeat' first | ((with_reducible first | refine XBr.y fun h => ?_ | refine XBr.n fun h => ?_ | refine XBr.dec (fun h => ?_) fun h => ?_ | refine XInt.a ?_ | apply Chk.go | apply ChkA.go | apply ChkF.go | apply ChkB.go | apply zw.mk) <;> conv => whnf) | (refine zh.a ?_; conv => whnf) | (with_reducible first | apply XAnd.mk | exact trivial) | (exact zd.mk rfl rfl) | (apply Walk.drawN (id := 30) zb zg [] [20, 22] (hsC [_, _, _]) [_, _, _, _, _, _, _, _, _, _, _, _, _, _, _, _, _, _, _, _, _, _, _] (by kernel_rfl) rfl) | ((refine za.ret (ww _ _ _) ?_); conv => whnf) | fail
   refine zk.go (k + 1, ss ++ [⟨((n : Int).tdiv ((k : Int) + 1)).tmod ((j : Int) + 1), ((n : Int).tdiv ((k : Int) + 1)).tmod 4, min (4 + (n : Int).tmod 8) (((n : Int).tdiv ((k : Int) + 1)).tmod 4 + k)⟩]) ⟨by dsimp only; omega, by dsimp only; rw [List.length_append, hsl]; rfl, fun s hs => ?_⟩ (by dsimp only; omega) ?_ ⟨rfl, rfl, rfl, rfl, rfl, trivial⟩
   ·rcases List.mem_append.1 hs with hs | hs
    ·exact hss s hs
    ·rw [List.mem_singleton] at hs; subst hs; dsimp only; omega
   ·dsimp only
    rw [zD, List.map_append]; rfl
  repeat' ((with_reducible first | refine XBr.y fun h => ?_ | refine XBr.n fun h => ?_ | refine XBr.dec (fun h => ?_) fun h => ?_) <;> conv => whnf)
  clear c1 c3 c4
  obtain ⟨b, hb⟩ : ∃ b : Bd, b = ⟨4 + (n : Int).tmod 8, (n : Int).tmod 5, (n : Int).tmod 3, ms.isEmpty, ms, ss.isEmpty, ss⟩ := ⟨_, rfl⟩
  have hE : bedE b = 0 := by
   rw [zz]; subst hb
   exact ⟨⟨by dsimp only; omega, by dsimp only; omega, by dsimp only; omega, by dsimp only; omega, by dsimp only; omega, by dsimp only; omega, by dsimp only; omega, by dsimp only; omega, fun m hm => by have := hms m hm; unfold Mo40 at this; dsimp only; omega⟩, by dsimp only; omega, fun s hs => by have := hss s hs; dsimp only; omega⟩
  have hw : b.nls = true -> b.surveys = [] := by subst hb; exact fun h => List.isEmpty_iff.1 h
  have r1 : b.room = 4 + (n : Int).tmod 8 := by rw [hb]
  have r2 : b.months.length = j := by rw [hb]; exact hl
  refine w6.go [] _ [(14, natA n), (15, .pim (bedC b)), (145, natA n)] rfl (fun x hx => by cases hx) ⟨⟨_, rfl, .same rfl⟩, ⟨_, rfl, .all (by rw [hb]; exact Froz.ptr rfl (by intro v hv; simp only [bedC, List.mem_cons, List.not_mem_nil, or_false] at hv; rcases hv with rfl | rfl | rfl | rfl | rfl <;> rfl) (.cons (.low rfl) (.cons (.low rfl) (.cons (.low rfl) (.cons (Froz.grow rfl hr1 (yn _)) (.cons (Froz.grow rfl hr2 (yO _)) .nil))))))⟩, ⟨_, rfl, .same rfl⟩, trivial⟩ ?_
  refine jP ?_
  clear hb hr1 hr2 hms hss hl hsl hk hj hlk hlt hme
  have hm0 : ((b.months.map moA).length : Int) = b.months.length := by rw [List.length_map]
  have bm := tmI (x := n) (k := ((b.months.map moA).length : Int)) (by omega) (by omega)
  have br := tmI (x := n) (k := b.room + 1) (by omega) (by omega)
  have ha := fun n1 n2 course plan h1 h2 => L.asked b ((n : Int).tmod 4) ((n : Int).tmod 6) ((n : Int).tmod 4, ((n : Int).tdiv 2).tmod 4) n1 n2 course plan ((n : Int).tmod 3) h1 h2
  have il : ∀ l : List Int, (ints l).length = l.length := fun l => List.length_map _
  have gd : ∀ l : List Int, (∀ x ∈ l, 0 <= x /\ x <= 1000) -> ∀ e, 0 <= l.getD e default /\ l.getD e default <= 1000 := fun l hl e => by
   rcases Nat.lt_or_ge e l.length with h | h
   ·exact hl _ (zB h)
   ·rw [List.getD_eq_getElem?_getD, List.getElem?_eq_none h]; exact ⟨by decide, by decide⟩
  have hC := G.course b hE hw _ _ bm.1 (by omega) br.1 (by omega)
  have hM := G.most b hE _ b3.1 (by omega)
  clear hE hw
  conv => whnf
  refine Walk.heapX [.dead, .dead, .dead] rfl ?_
  rcases hC with ⟨e1, hc⟩ | ⟨l, hl0, hl1, hlb, hc⟩
  ·rcases hM with ⟨e2, hp⟩ | ⟨q, hq0, hq1, hqb, hp⟩
   ·have ha := ha true true [] [] (by decide) (by decide)
    repeat' first | ((with_reducible first | apply XBr.tt | apply XBr.ff | refine XBr.y fun h => ?_ | refine XBr.n fun h => ?_ | refine XBr.dec (fun h => ?_) fun h => ?_ | refine XBr.y1 fun h => ?_ | refine XBr.n1 fun h => ?_ | refine XBr.beq (fun h => ?_) fun h => ?_ | refine XInt.a ?_ | apply Chk.go | apply ChkA.go | apply ChkF.go | apply ChkB.go | apply zw.mk) <;> conv => whnf) | (refine zh.a ?_; conv => whnf) | (with_reducible first | apply XBr.not | apply XAnd.mk | exact trivial) | (exact zd.mk rfl rfl) | (apply Walk.drawN (id := 32) zb zg [] [] (hsU _) [_, _, _, _, _, _, _, _, _, _, _, _, _, _, _, _, _] (by kernel_rfl) rfl) | (apply Walk.drawN (id := 34) zb zg [] [11] (hsC [_, _]) [_, _, _, _, _, _, _, _, _, _, _, _] (by kernel_rfl) rfl) | ((first | refine za.ret hc ?_ | refine za.ret hp ?_ | refine za.ret ha ?_); conv => whnf) | fail
    all_goals first | exact zp.go (n + 1) _ (by omega) (by omega) rfl ⟨rfl, trivial⟩ | exact absurd (show (0 : Int) < ((List.length ([] : List AV) : Nat) : Int) by assumption) (by decide)
   ·have bq := tmI (x := n) (k := (q.length : Int)) (by omega) (by omega)
    have hqd := gd q hqb
    have ha1 := ha true false [] q (by decide) hq1
    have ha2 := ha true false [] (q.set ((n : Int).tmod (q.length : Int)).toNat (q.getD ((n : Int).tmod (q.length : Int)).toNat default + 1)) (by decide) (by rw [List.length_set]; exact hq1)
    clear ha
    repeat' first | ((with_reducible first | apply XBr.tt | apply XBr.ff | refine XBr.y fun h => ?_ | refine XBr.n fun h => ?_ | refine XBr.dec (fun h => ?_) fun h => ?_ | refine XBr.y1 fun h => ?_ | refine XBr.n1 fun h => ?_ | refine XBr.beq (fun h => ?_) fun h => ?_ | refine XInt.a ?_ | apply Chk.go | apply ChkA.go | apply ChkF.go | apply ChkB.go | apply zw.mk) <;> conv => whnf) | (refine zh.a ?_; conv => whnf) | (with_reducible first | apply XBr.not | apply XAnd.mk | exact trivial) | (exact zd.mk rfl rfl) | (apply Walk.drawN (id := 32) zb zg [] [] (hsU _) [_, _, _, _, _, _, _, _, _, _, _, _, _, _, _, _, _] (by kernel_rfl) rfl) | ((first | refine za.ret hc ?_ | refine za.giveInts 3 [.dead, .dead, .dead, .grow 3 false (ints q)] rfl rfl hp ?_ | refine zh.mk (il q) ?_ | refine zh.mk ⟨il q, rfl, bq.1, bq.2⟩ ?_ | refine XGet.map (f := fun z => AV.int .i64 z) rfl (by omega) ?_ | (refine XInt.i64 (by have := (hqd ((n : Int).tmod (q.length : Int)).toNat).1; omega) (by have := (hqd ((n : Int).tmod (q.length : Int)).toNat).2; omega) ?_) | refine XPut.map (f := fun z => AV.int .i64 z) (xs := q) _ rfl rfl (by omega) ?_ | refine za.lend ha1 (.cons (.low (show (bedA b).low 0 = true from bedL _)) (.cons (.low rfl) (.cons (.low rfl) (.cons (.low rfl) (.cons (.low rfl) (.cons (Froz.grow (i := 3) rfl (il _) (lowI _)) (.cons (.low rfl) .nil))))))) rfl ?_ | refine za.lend ha2 (.cons (.low (show (bedA b).low 0 = true from bedL _)) (.cons (.low rfl) (.cons (.low rfl) (.cons (.low rfl) (.cons (.low rfl) (.cons (Froz.grow (i := 3) rfl ((il _).trans List.length_set) (lowI _)) (.cons (.low rfl) .nil))))))) rfl ?_); conv => whnf) | fail
    all_goals first | exact zp.go (n + 1) _ (by omega) (by omega) rfl ⟨rfl, trivial⟩ | exact absurd (show (0 : Int) < ((List.length ([] : List AV) : Nat) : Int) by assumption) (by decide)
  ·have bl := tmI (x := n) (k := (l.length : Int)) (by omega) (by omega)
   refine Walk.place ?_
   apply Walk.drawX zb zg [] [11] (fun fl => match fl with
    | [x] => [.dead, .dead, .dead, (bif x then .grow 3 false (ints l) else .free)]
    | _ => []) [_, _, _, _, _, _, _, _, _, _, _, .tup [.gr 3 l.length, .int .i64 0], .tup [.gr 3 l.length, .int .i64 0], .gr 3 l.length, .int .i64 0, .gr 3 l.length, .int .i64 0] (lex_of (by kernel_rfl)) rfl
   ·skip
    repeat' first | ((with_reducible first | refine XInt.a ?_ | apply Chk.go | apply ChkA.go); conv => whnf) | (refine zh.a ?_; conv => whnf) | (with_reducible first | apply XAnd.mk | exact trivial) | (exact zd.mk rfl rfl) | ((refine za.giveAtInts 3 rfl [.dead, .dead, .dead, .grow 3 false (ints l)] rfl hc ?_); conv => whnf) | fail
   ·skip
    repeat' first | ((with_reducible first | refine XInt.a ?_ | apply Chk.go | apply ChkF.go | apply ChkB.go); conv => whnf) | (with_reducible first | apply XAnd.mk | exact trivial) | (exact zd.mk rfl rfl) | fail
   conv => whnf
   have hl0' : (0 : Int) < (l.length : Int) := by omega
   by_cases h3 : (n : Int).tmod 3 = 0
   ·skip
    repeat' first | ((with_reducible first | apply XBr.tt | refine XBr.y fun h => ?_ | refine XBr.n fun h => ?_ | refine XBr.dec (fun h => ?_) fun h => ?_ | refine XBr.y1 fun h => ?_ | refine XBr.n1 fun h => ?_ | refine XBr.beq (fun h => ?_) fun h => ?_) <;> conv => whnf) | ((first | refine zh.a ?_ | refine zh.mk (il l) ?_); conv => whnf) | fail
    apply Walk.drawX zb zg [] [11] (fun fl => match fl with
     | [x] => [.dead, .dead, .dead, .grow 3 false (ints (bif x then l.set ((n : Int).tmod (l.length : Int)).toNat ((n : Int).tmod (b.room + 1)) else l))]
     | _ => []) [_, _, _, _, _, _, _, _, _, _, _, _] (lex_of (by kernel_rfl)) rfl
    ·skip
     repeat' first | ((with_reducible first | refine XInt.a ?_ | apply Chk.go | apply ChkA.go); conv => whnf) | (refine zh.a ?_; conv => whnf) | (with_reducible first | apply XAnd.mk | exact trivial) | (exact zd.mk rfl rfl) | ((first | refine zh.mk (il l) ?_ | refine zh.mk ⟨il l, rfl, bl.1, bl.2⟩ ?_ | refine XPut.map (f := fun z => AV.int .i64 z) (xs := l) _ rfl rfl (by omega) ?_); conv => whnf) | fail
    ·skip
     repeat' first | ((with_reducible first | apply ChkF.go | apply ChkB.go); conv => whnf) | (with_reducible first | apply XAnd.mk | exact trivial) | fail
    conv => whnf
    rcases hM with ⟨e2, hp⟩ | ⟨q, hq0, hq1, hqb, hp⟩
    ·have ha := ha false true ((l.set ((n : Int).tmod (l.length : Int)).toNat ((n : Int).tmod (b.room + 1)))) [] (by rw [List.length_set]; exact hl1) (by decide)
     repeat' first | ((with_reducible first | apply XBr.tt | apply XBr.ff | refine XBr.y fun h => ?_ | refine XBr.n fun h => ?_ | refine XBr.dec (fun h => ?_) fun h => ?_ | refine XBr.y1 fun h => ?_ | refine XBr.n1 fun h => ?_ | refine XBr.beq (fun h => ?_) fun h => ?_ | refine XInt.a ?_) <;> conv => whnf) | with_reducible apply XBr.not | ((first | refine zh.a ?_ | refine za.ret hp ?_ | refine za.lend ha (.cons (.low (show (bedA b).low 0 = true from bedL _)) (.cons (.low rfl) (.cons (.low rfl) (.cons (.low rfl) (.cons (Froz.grow (i := 3) rfl ((il _).trans List.length_set) (lowI _)) (.cons (.low rfl) (.cons (.low rfl) .nil))))))) rfl ?_); conv => whnf) | fail
     all_goals first | exact zp.go (n + 1) _ (by omega) (by omega) rfl ⟨rfl, trivial⟩ | exact absurd (show (0 : Int) < ((List.length ([] : List AV) : Nat) : Int) by assumption) (by decide)
    ·have bq := tmI (x := n) (k := (q.length : Int)) (by omega) (by omega)
     have hqd := gd q hqb
     have ha1 := ha false false ((l.set ((n : Int).tmod (l.length : Int)).toNat ((n : Int).tmod (b.room + 1)))) q (by rw [List.length_set]; exact hl1) hq1
     have ha2 := ha false false ((l.set ((n : Int).tmod (l.length : Int)).toNat ((n : Int).tmod (b.room + 1)))) (q.set ((n : Int).tmod (q.length : Int)).toNat (q.getD ((n : Int).tmod (q.length : Int)).toNat default + 1)) (by rw [List.length_set]; exact hl1) (by rw [List.length_set]; exact hq1)
     clear ha
     repeat' first | ((with_reducible first | apply XBr.tt | refine XBr.y fun h => ?_ | refine XBr.n fun h => ?_ | refine XBr.dec (fun h => ?_) fun h => ?_ | refine XBr.y1 fun h => ?_ | refine XBr.n1 fun h => ?_ | refine XBr.beq (fun h => ?_) fun h => ?_ | refine XInt.a ?_) <;> conv => whnf) | with_reducible apply XBr.not | ((first | refine zh.a ?_ | refine za.giveInts 4 [.dead, .dead, .dead, .grow 3 false (ints (l.set ((n : Int).tmod (l.length : Int)).toNat ((n : Int).tmod (b.room + 1)))), .grow 3 false (ints q)] rfl rfl hp ?_ | refine zh.mk (il q) ?_ | refine zh.mk ⟨il q, rfl, bq.1, bq.2⟩ ?_ | refine XGet.map (f := fun z => AV.int .i64 z) rfl (by omega) ?_ | (refine XInt.i64 (by have := (hqd ((n : Int).tmod (q.length : Int)).toNat).1; omega) (by have := (hqd ((n : Int).tmod (q.length : Int)).toNat).2; omega) ?_) | refine XPut.map (f := fun z => AV.int .i64 z) (xs := q) _ rfl rfl (by omega) ?_ | refine za.lend ha1 (.cons (.low (show (bedA b).low 0 = true from bedL _)) (.cons (.low rfl) (.cons (.low rfl) (.cons (.low rfl) (.cons (Froz.grow (i := 3) rfl ((il _).trans List.length_set) (lowI _)) (.cons (Froz.grow (i := 4) rfl (il _) (lowI _)) (.cons (.low rfl) .nil))))))) rfl ?_ | refine za.lend ha2 (.cons (.low (show (bedA b).low 0 = true from bedL _)) (.cons (.low rfl) (.cons (.low rfl) (.cons (.low rfl) (.cons (Froz.grow (i := 3) rfl ((il _).trans List.length_set) (lowI _)) (.cons (Froz.grow (i := 4) rfl ((il _).trans List.length_set) (lowI _)) (.cons (.low rfl) .nil))))))) rfl ?_); conv => whnf) | fail
     all_goals exact zp.go (n + 1) _ (by omega) (by omega) rfl ⟨rfl, trivial⟩
   ·skip
    repeat' first | ((with_reducible first | apply XBr.tt | refine XBr.y fun h => ?_ | refine XBr.n fun h => ?_ | refine XBr.dec (fun h => ?_) fun h => ?_ | refine XBr.y1 fun h => ?_ | refine XBr.n1 fun h => ?_ | refine XBr.beq (fun h => ?_) fun h => ?_) <;> conv => whnf) | ((first | refine zh.a ?_ | refine zh.mk (il l) ?_); conv => whnf) | fail
    rcases hM with ⟨e2, hp⟩ | ⟨q, hq0, hq1, hqb, hp⟩
    ·have ha := ha false true (l) [] hl1 (by decide)
     repeat' first | ((with_reducible first | apply XBr.tt | apply XBr.ff | refine XBr.y fun h => ?_ | refine XBr.n fun h => ?_ | refine XBr.dec (fun h => ?_) fun h => ?_ | refine XBr.y1 fun h => ?_ | refine XBr.n1 fun h => ?_ | refine XBr.beq (fun h => ?_) fun h => ?_ | refine XInt.a ?_) <;> conv => whnf) | with_reducible apply XBr.not | ((first | refine zh.a ?_ | refine za.ret hp ?_ | refine za.lend ha (.cons (.low (show (bedA b).low 0 = true from bedL _)) (.cons (.low rfl) (.cons (.low rfl) (.cons (.low rfl) (.cons (Froz.grow (i := 3) rfl (il _) (lowI _)) (.cons (.low rfl) (.cons (.low rfl) .nil))))))) rfl ?_); conv => whnf) | fail
     all_goals first | exact zp.go (n + 1) _ (by omega) (by omega) rfl ⟨rfl, trivial⟩ | exact absurd (show (0 : Int) < ((List.length ([] : List AV) : Nat) : Int) by assumption) (by decide)
    ·have bq := tmI (x := n) (k := (q.length : Int)) (by omega) (by omega)
     have hqd := gd q hqb
     have ha1 := ha false false (l) q hl1 hq1
     have ha2 := ha false false (l) (q.set ((n : Int).tmod (q.length : Int)).toNat (q.getD ((n : Int).tmod (q.length : Int)).toNat default + 1)) hl1 (by rw [List.length_set]; exact hq1)
     clear ha
     repeat' first | ((with_reducible first | apply XBr.tt | refine XBr.y fun h => ?_ | refine XBr.n fun h => ?_ | refine XBr.dec (fun h => ?_) fun h => ?_ | refine XBr.y1 fun h => ?_ | refine XBr.n1 fun h => ?_ | refine XBr.beq (fun h => ?_) fun h => ?_ | refine XInt.a ?_) <;> conv => whnf) | with_reducible apply XBr.not | ((first | refine zh.a ?_ | refine za.giveInts 4 [.dead, .dead, .dead, .grow 3 false (ints l), .grow 3 false (ints q)] rfl rfl hp ?_ | refine zh.mk (il q) ?_ | refine zh.mk ⟨il q, rfl, bq.1, bq.2⟩ ?_ | refine XGet.map (f := fun z => AV.int .i64 z) rfl (by omega) ?_ | (refine XInt.i64 (by have := (hqd ((n : Int).tmod (q.length : Int)).toNat).1; omega) (by have := (hqd ((n : Int).tmod (q.length : Int)).toNat).2; omega) ?_) | refine XPut.map (f := fun z => AV.int .i64 z) (xs := q) _ rfl rfl (by omega) ?_ | refine za.lend ha1 (.cons (.low (show (bedA b).low 0 = true from bedL _)) (.cons (.low rfl) (.cons (.low rfl) (.cons (.low rfl) (.cons (Froz.grow (i := 3) rfl (il _) (lowI _)) (.cons (Froz.grow (i := 4) rfl (il _) (lowI _)) (.cons (.low rfl) .nil))))))) rfl ?_ | refine za.lend ha2 (.cons (.low (show (bedA b).low 0 = true from bedL _)) (.cons (.low rfl) (.cons (.low rfl) (.cons (.low rfl) (.cons (Froz.grow (i := 3) rfl (il _) (lowI _)) (.cons (Froz.grow (i := 4) rfl ((il _).trans List.length_set) (lowI _)) (.cons (.low rfl) .nil))))))) rfl ?_); conv => whnf) | fail
     all_goals exact zp.go (n + 1) _ (by omega) (by omega) rfl ⟨rfl, trivial⟩
 ·obtain rfl : n = 40 := by omega
  repeat' ((with_reducible first | refine XBr.y fun h => ?_ | refine XBr.n fun h => ?_ | refine XBr.dec (fun h => ?_) fun h => ?_) <;> conv => whnf)
  refine w6.go [] _ [] rfl (fun x hx => by cases hx) trivial ?_
  refine jP ?_
  exact smMany L
end GA
end
section
namespace GA
open Go Go.RowKit Go.Proofs
def limB : List (List Int) := [[0, 1, 3, 4, 11, 12, 120, 121], [-1, 0, 10, 11], [-1, 0, 40, 41], [-1, 0, 100, 101], [-1, 0, 10, 11], [-1, 0, 2, 3], [0, 1, 60, 61], [-1, 0, 3, 4], [0, 1, 60, 61], [-1, 0, 2, 3], [-1, 0, 5, 6], [3, 4, 10, 11], [-1, 0, 1, 2], [-1, 0, 10, 11], [-1, 0, 2, 3], [-1, 0, 3, 4], [-1, 0, 10, 11], [-1, 0, 10, 11], [-1, 0, 5, 10, 11]]
theorem limB_len : ∀ i, i < 19 -> (limB.getD i default).length <= 8 := by decide
def limA : AV := .sl false (limB.map fun r => .sl false (ints r))
theorem za.ask04 (L : zaX) (b : Bd) (mo am : Int) (c : Int × Int) (co pl : List Int) (sh : Int) {rs : List AV} {H : List Blk} {k : AV -> List Blk -> Prop} (h1 : co.length <= 1000) (h2 : pl.length <= 1000) (h3 : b.nlm = false) (h4 : b.nls = false)
  {r1 r2 r3 r4 r5 r6 r7 : AV} (hr : rs = [r1, r2, r3, r4, r5, r6, r7]) (f1 : Froz Tryz.prog H r1 (bedA b)) (f2 : Froz Tryz.prog H r2 (.int .i64 mo)) (f3 : Froz Tryz.prog H r3 (.int .i64 am)) (f4 : Froz Tryz.prog H r4 (prA c)) (f5 : Froz Tryz.prog H r5 (.sl false (ints co))) (f6 : Froz Tryz.prog H r6 (.sl false (ints pl))) (f7 : Froz Tryz.prog H r7 (.int .i64 sh))
  (hk : k (.bool true) H) : za Tryz.prog 17 rs H k := by
 subst hr
 exact za.lend (L.asked b mo am c false false co pl sh h1 h2) (.cons f1 (.cons f2 (.cons f3 (.cons f4 (.cons f5 (.cons f6 (.cons f7 .nil))))))) rfl hk
theorem frozBd {H : List Blk} {i j : Nat} (b : Bd) {t1 t2 : TypeId} (h1 : lget H i = some (.grow t1 b.nlm (b.months.map moA))) (h2 : lget H j = some (.grow t2 b.nls (b.surveys.map suA))) :
  Froz Tryz.prog H (.agg [.int .i64 b.room, .int .i64 b.first, .int .i64 b.unsure, .gr i b.months.length, .gr j b.surveys.length]) (bedA b) :=
 Froz.agg (by intro v hv; simp only [bedC, List.mem_cons, List.not_mem_nil, or_false] at hv; rcases hv with rfl | rfl | rfl | rfl | rfl <;> rfl) (.cons (.low rfl) (.cons (.low rfl) (.cons (.low rfl) (.cons (Froz.grow h1 (List.length_map _) (yn _)) (.cons (Froz.grow h2 (List.length_map _) (yO _)) .nil)))))
set_option maxHeartbeats 4000000 in
theorem zdj (L : zaX) (G : GivesB) : Comp Tryz.prog 4 [] (.bool true) := by
 refine Comp.bodyW (T := tab) (res := [.tmp 0]) zb [55, 68, 71, 74, 75] Tryz.func4 rfl (by kernel_rfl) Tryz.ntmps4 rfl (by simp only [List.length_cons, List.length_nil]; decide) (by rfl) ?_
 refine Walk.step zb [] ?_
 conv => whnf
 refine XGo.go zb [] ?_
 conv => whnf
 /-
 refine Comp.body (T := tab) (res := [.tmp 0]) zb [55, 68, 71, 74, 75] Tryz.func4 rfl (by kernel_rfl) Tryz.ntmps4 rfl (by simp only [List.length_cons, List.length_nil]; decide) (by rfl) ?_; conv => whnf
 -/
 repeat' ((first | refine zh.a ?_ | (with_reducible refine XGo.go zb [55, 68, 71, 74, 75] ?_)); conv => whnf)
 refine Walk.loopGKW [(48, limA), (49, .int .i64 (19 : Nat))] ⟨rfl, rfl, trivial⟩ (fun i : Nat => i <= 19) (fun i => [(50, natA i)]) (fun _ => []) (fun i => 19 - i) 0 (Nat.zero_le _) rfl ⟨rfl, trivial⟩ ?_ (fun _ _ => Nat.le_refl _) ?_
 ·intro n _
  refine ⟨fun z hz => (by cases hz), fun z hz => ?_⟩
  simp only [List.cons_append, List.nil_append, List.mem_cons, List.not_mem_nil, or_false] at hz
  rcases hz with rfl | rfl | rfl <;> rfl
 intro i hi
 refine Walk.step zb [] ?_
 conv => whnf
 by_cases hi19 : i < 19
 ·have hll := limB_len i hi19
  have hil : ∀ l : List Int, (ints l).length = l.length := fun l => List.length_map _
  repeat' first | ((first | refine XIx.nat (f := fun r => AV.sl false (ints r)) (xs := limB) hi19 (fun _ => rfl) ?_ | (refine zh.mk ⟨rfl, rfl, by unfold Room; rw [hil]; constructor <;> omega⟩ ?_) | (refine zh.mk (show (_ :: _ :: ints (limB.getD i default)).length = _ by rw [List.length_cons, List.length_cons, hil]; omega) ?_)); conv => whnf) | ((with_reducible first | refine XBr.y fun h => ?_ | refine XBr.n fun h => ?_ | refine XBr.dec (fun h => ?_) fun h => ?_) <;> conv => whnf) | ((first | refine zh.a ?_ | (with_reducible refine XGo.go zb [55, 68, 71, 74, 75] ?_)); conv => whnf) | fail
  obtain ⟨l, hl⟩ : ∃ l, l = limB.getD i default := ⟨_, rfl⟩
  rw [<- hl] at hll ⊢
  clear hl
  obtain ⟨W, hW⟩ : ∃ W : List Int, W = 9223372036854775807 :: -9223372036854775808 :: l := ⟨_, rfl⟩
  have hWl : W.length = 2 + (ints l).length := by rw [hW, List.length_cons, List.length_cons, hil]; omega
  have hWm : 2 + (ints l).length <= 10 := by rw [hil]; omega
  refine Walk.loopGKW [(2, natA i), (48, limA), (49, .int .i64 (19 : Nat)), (50, natA i), (57, .gr 0 (2 + (ints l).length)), (58, .int .i64 (2 + (ints l).length : Nat))] ⟨rfl, rfl, rfl, rfl, rfl, rfl, trivial⟩ (fun k : Nat => k <= 2 + (ints l).length) (fun k => [(59, natA k)]) (fun _ => [.grow 3 false (ints W)]) (fun k => 2 + (ints l).length - k) 0 (Nat.zero_le _) (by rw [hW]; rfl) ⟨rfl, trivial⟩ ?_ (fun _ _ => Nat.le_refl _) ?_
  ·intro n _
   refine ⟨fun z hz => ?_, fun z hz => ?_⟩
   ·simp only [List.mem_cons, List.not_mem_nil, or_false] at hz
    subst hz; exact lowI _
   simp only [List.cons_append, List.nil_append, List.mem_cons, List.not_mem_nil, or_false] at hz
   rcases hz with rfl | rfl | rfl | rfl | rfl | rfl | rfl <;> first | rfl | (show decide (0 < 1) = true; rfl)
  generalize 2 + (ints l).length = wl at *
  intro k hk
  refine Walk.step zb [] ?_
  conv => whnf
  by_cases hkw : k < wl
  ·have c1 := ww 1 3 6
   have c2 := ww 2 5 9
   repeat' first | ((first | (refine zh.mk ⟨by rw [hil]; exact hWl, rfl, by omega, by omega⟩ ?_) | refine XGet.map (f := fun z => AV.int .i64 z) hWl.symm (by omega) ?_ | refine za.ret c1 ?_ | refine za.ret c2 ?_); conv => whnf) | ((with_reducible first | refine XBr.y fun h => ?_ | refine XBr.n fun h => ?_ | refine XBr.dec (fun h => ?_) fun h => ?_ | apply Chk.go | apply ChkA.go | apply ChkF.go | apply ChkB.go | apply zw.mk) <;> conv => whnf) | (refine zh.a ?_; conv => whnf) | (with_reducible first | apply XAnd.mk | exact trivial) | (exact zd.mk rfl rfl) | (apply Walk.drawN (id := 10) zb zg [55, 68, 71, 74, 75] [] (hsU _) [_, _, _, _, _, _, _, _, _, _, _, _, _, _, _, _, _, _, _, _, _, _, _, _, _, _, _, _, _, _, _, _, _, _, _, _, _, _, _, _, _, _, _, _, _, _, _, _, _, _, _, _, _] (by kernel_rfl) rfl) | ((with_reducible refine XGo.go zb [55, 68, 71, 74, 75] ?_); conv => whnf) | fail
   have hq : i = 0 \/ i = 1 \/ i = 2 \/ i = 3 \/ i = 4 \/ i = 5 \/ i = 6 \/ i = 7 \/ i = 8 \/ i = 9 \/ i = 10 \/ i = 11 \/ i = 12 \/ i = 13 \/ i = 14 \/ i = 15 \/ i = 16 \/ i = 17 \/ i = 18 := by omega
   rcases hq with rfl | rfl | rfl | rfl | rfl | rfl | rfl | rfl | rfl | rfl | rfl | rfl | rfl | rfl | rfl | rfl | rfl | rfl | rfl
   all_goals refine XIx.mk (by decide) (by decide) rfl ?_
   all_goals conv => whnf
   all_goals skip
   repeat' first | ((first | (first | refine zN.mk rfl (by decide) (Nat.le_of_ble_eq_true rfl) rfl ?_ | refine XPut.mk rfl (by decide) ?_ | refine za.ask04 L ⟨_, _, _, false, [⟨_, _, _, _, _, _⟩, ⟨_, _, _, _, _, _⟩], false, [⟨_, _, _⟩, ⟨_, _, _⟩]⟩ _ _ (_, _) [_, _, _] [_, _] _ (by simp) (by simp) rfl rfl rfl (frozBd (i := 1) (j := 2) ⟨_, _, _, false, [⟨_, _, _, _, _, _⟩, ⟨_, _, _, _, _, _⟩], false, [⟨_, _, _⟩, ⟨_, _, _⟩]⟩ rfl rfl) (.low rfl) (.low rfl) (.low rfl) (Froz.grow (i := 4) rfl rfl rfl) (Froz.grow (i := 5) rfl rfl rfl) (.low rfl) ?_ | refine za.ask04 L ⟨_, _, _, false, [⟨_, _, _, _, _, _⟩, ⟨_, _, _, _, _, _⟩], false, [⟨1, W.getD (Int.toNat (k : Int)) default, 6⟩, ⟨2, 5, 9⟩]⟩ _ _ (_, _) [_, _, _] [_, _] _ (by simp) (by simp) rfl rfl rfl (frozBd (i := 1) (j := 2) ⟨_, _, _, false, [⟨_, _, _, _, _, _⟩, ⟨_, _, _, _, _, _⟩], false, [⟨1, W.getD (Int.toNat (k : Int)) default, 6⟩, ⟨2, 5, 9⟩]⟩ rfl rfl) (.low rfl) (.low rfl) (.low rfl) (Froz.grow (i := 4) rfl rfl rfl) (Froz.grow (i := 5) rfl rfl rfl) (.low rfl) ?_ | refine za.ask04 L ⟨_, _, _, false, [⟨_, _, _, _, _, _⟩, ⟨_, _, _, _, _, _⟩], false, [⟨1, 3, 6⟩, ⟨2, 5, W.getD (Int.toNat (k : Int)) default⟩]⟩ _ _ (_, _) [_, _, _] [_, _] _ (by simp) (by simp) rfl rfl rfl (frozBd (i := 1) (j := 2) ⟨_, _, _, false, [⟨_, _, _, _, _, _⟩, ⟨_, _, _, _, _, _⟩], false, [⟨1, 3, 6⟩, ⟨2, 5, W.getD (Int.toNat (k : Int)) default⟩]⟩ rfl rfl) (.low rfl) (.low rfl) (.low rfl) (Froz.grow (i := 4) rfl rfl rfl) (Froz.grow (i := 5) rfl rfl rfl) (.low rfl) ?_) | (with_reducible first | apply XBr.tt | refine XInt.a ?_)); conv => whnf) | with_reducible apply XBr.not | ((with_reducible refine XGo.go zb [55, 68, 71, 74, 75] ?_); conv => whnf) | fail
   all_goals exact zp.go (k + 1) _ (by omega) (by omega) rfl ⟨rfl, rfl, rfl, rfl, rfl, rfl, rfl, trivial⟩
  ·skip
   repeat' first | ((with_reducible first | refine XBr.y fun h => ?_ | refine XBr.n fun h => ?_ | refine XBr.dec (fun h => ?_) fun h => ?_ | refine XInt.a ?_) <;> conv => whnf) | ((with_reducible refine XGo.go zb [55, 68, 71, 74, 75] ?_); conv => whnf) | fail
   exact zp.go (i + 1) _ (by omega) (by omega) rfl ⟨rfl, rfl, rfl, trivial⟩
 ·obtain rfl : i = 19 := by omega
  refine XGo.go zb [] ?_
  conv => whnf
  refine XBr.no (decide_eq_false (by omega)) ?_
  conv => whnf
  refine XGo.go zb [] ?_
  conv => whnf
  exact XGo.at [] trivial (Walk.run zb [55, 68, 71, 74, 75] (smBeds L G))
end GA
end
section
namespace GA
open Go Go.RowKit Go.Proofs
def kpB (b : Bd) (share : Int) (k : Nat) : Bool := j6 b (List.replicate b.months.length (k : Int)) share
theorem fV (b : Bd) (share : Int) (N : Nat) : kA b share (N + 1) = if kpB b share N = true then (N : Int) else kA b share N := rfl
end GA
end
section
namespace GA
open Go Go.RowKit Go.Proofs
def zK (b : Bd) (c : List Int) : Int := if bedE b ≠ 0 then bedE b else if (c.length : Int) ≠ b.months.length + 1 then 2 else if c.all (fun x => inZ x 0 b.room) = false then 3 else 0
theorem yS {b : Bd} {c : List Int} : zK b c = 0 ↔ BdOk b /\ c.length = b.months.length + 1 /\ ∀ x ∈ c, 0 <= x /\ x <= b.room := by
 unfold zK
 constructor
 ·intro h
  split at h
  ·rename_i h1; exact absurd h h1
  ·split at h; · cases h
   split at h; · cases h
   rename_i h1 h2 h3
   rw [Bool.not_eq_false, List.all_eq_true] at h3
   exact ⟨(zz b).1 (by omega), by omega, fun x hx => zx.1 (h3 x hx)⟩
 ·rintro ⟨h1, h2, h3⟩
  rw [if_neg (fun h => h ((zz b).2 h1)), if_neg (by omega), if_neg (by rw [List.all_eq_true.2 fun x hx => zx.2 (h3 x hx)]; simp)]
def courA (b : Bd) (c : List Int) : AV := if zK b c ≠ 0 then .tup [.nilp, .int .i64 (zK b c)] else .tup [dskA b, .int .i64 0]
theorem q9 (b : Bd) (nl : Bool) (c : List Int) (hm : b.months.length <= 100000) (hs : b.surveys.length <= 100000) (hl : c.length <= 100000) : Comp Tryz.prog 224 [bedA b, .sl nl (ints c)] (courA b c) := by
 have e1 : ((b.months.map moA).length : Int) = b.months.length := by rw [List.length_map]
 have e2 : ((ints c).length : Int) = c.length := by rw [zm]
 have hev := qJ nl c 98 [bedA b] (fun x => inZ x 0 b.room) (by simp only [lowL, bedL]; rfl) (by omega) fun x _ => zS b x
 unfold courA
 by_cases hb : bedE b = 0
 ·have hop := kv b ((zz b).1 hb)
  by_cases hlen : (c.length : Int) = b.months.length + 1
  ·cases hr : c.all (fun x => inZ x 0 b.room)
   ·have hE : zK b c = 3 := by unfold zK; rw [if_neg (fun h => h hb), if_neg (fun h => h hlen), hr, if_pos rfl]
    rw [hE, if_pos (by decide)]
    rw [hr] at hev
    refine Comp.body (T := tab) (res := [.tmp 4, .tmp 5]) zb [] Tryz.func224 rfl (by kernel_rfl) Tryz.ntmps224 rfl (by simp only [List.length_cons, List.length_nil]; decide) (by simp only [lowL, bedL, AV.low, lowI]; rfl) ?_; conv => whnf
    repeat' first | ((with_reducible first | apply XBr.ff | refine XBr.y2 fun h => ?_ | refine XBr.n2 fun h => ?_ | refine XBr.bne (fun h => ?_) fun h => ?_ | refine XInt.a ?_) <;> conv => whnf) | with_reducible apply XBr.not | ((first | refine za.ret hop ?_ | refine za.ret hev ?_); conv => whnf) | fail
    exact ⟨.low rfl⟩
   ·have hE : zK b c = 0 := by unfold zK; rw [if_neg (fun h => h hb), if_neg (fun h => h hlen), hr, if_neg (by simp)]
    rw [hE, if_neg (fun h => h rfl)]
    rw [hr] at hev
    refine Comp.body (T := tab) (res := [.tmp 4, .tmp 5]) zb [] Tryz.func224 rfl (by kernel_rfl) Tryz.ntmps224 rfl (by simp only [List.length_cons, List.length_nil]; decide) (by simp only [lowL, bedL, AV.low, lowI]; rfl) ?_; conv => whnf
    repeat' first | ((with_reducible first | apply XBr.tt | refine XBr.y2 fun h => ?_ | refine XBr.n2 fun h => ?_ | refine XBr.bne (fun h => ?_) fun h => ?_ | refine XInt.a ?_) <;> conv => whnf) | with_reducible apply XBr.not | ((first | refine za.ret hop ?_ | refine za.ret hev ?_); conv => whnf) | fail
    exact ⟨.low (by simp only [pack, AV.low, lowL, dskL]; rfl)⟩
  ·have hE : zK b c = 2 := by unfold zK; rw [if_neg (fun h => h hb), if_pos hlen]
   rw [hE, if_pos (by decide)]
   refine Comp.body (T := tab) (res := [.tmp 4, .tmp 5]) zb [] Tryz.func224 rfl (by kernel_rfl) Tryz.ntmps224 rfl (by simp only [List.length_cons, List.length_nil]; decide) (by simp only [lowL, bedL, AV.low, lowI]; rfl) ?_; conv => whnf
   repeat' first | ((with_reducible first | refine XBr.y2 fun h => ?_ | refine XBr.n2 fun h => ?_ | refine XBr.bne (fun h => ?_) fun h => ?_ | refine XInt.a ?_) <;> conv => whnf) | ((refine za.ret hop ?_); conv => whnf) | fail
   exact ⟨.low rfl⟩
 ·have hop := kd b hm hs hb
  have hE : zK b c = bedE b := by unfold zK; rw [if_pos hb]
  rw [hE, if_pos hb]
  generalize bedE b = e at hop hb
  refine Comp.body (T := tab) (res := [.tmp 4, .tmp 5]) zb [] Tryz.func224 rfl (by kernel_rfl) Tryz.ntmps224 rfl (by simp only [List.length_cons, List.length_nil]; decide) (by simp only [lowL, bedL, AV.low, lowI]; rfl) ?_; conv => whnf
  repeat' first | ((with_reducible first | refine XBr.y2 fun h => ?_ | refine XBr.n2 fun h => ?_ | refine XBr.bne (fun h => ?_) fun h => ?_) <;> conv => whnf) | ((refine za.ret hop ?_); conv => whnf) | fail
  exact ⟨.low rfl⟩
def wE (b : Bd) (l : List Int) (share : Int) : Prop := (∀ m, m < b.months.length -> l.getD (m + 1) default <= lieR b m (l.getD m default).toNat) /\ share <= l.getD b.months.length default
instance (b : Bd) (l : List Int) (share : Int) : Decidable (wE b l share) := by unfold wE; infer_instance
def keptA (b : Bd) (l : List Int) (share : Int) : AV := if zK b l ≠ 0 then .tup [.bool false, .int .i64 (zK b l)] else if inZ share 0 b.room = false then .tup [.bool false, .int .i64 3] else .tup [.bool (decide (wE b l share)), .int .i64 0]
theorem kept_c (b : Bd) (nl : Bool) (l : List Int) (share : Int) (hm : b.months.length <= 100000) (hs : b.surveys.length <= 100000) (hl : l.length <= 100000) : Comp Tryz.prog 133 [bedA b, .sl nl (ints l), .int .i64 share] (keptA b l share) := by
 have hco := q9 b nl l hm hs hl
 have ham := zS b share
 have e1 : ((b.months.map moA).length : Int) = b.months.length := by rw [List.length_map]
 have e2 : ((ints l).length : Int) = l.length := by rw [zm]
 unfold keptA
 unfold courA at hco
 by_cases hE : zK b l = 0
 ·obtain ⟨ok, h1, h2⟩ := yS.1 hE
  have r1 := ok.r1
  have r2 := ok.r2
  have m1 := ok.m1
  have m2 := ok.m2
  rw [if_neg (fun h => h hE)] at hco ⊢
  by_cases hsh : inZ share 0 b.room = false
  ·rw [hsh] at ham
   rw [if_pos hsh]
   refine Comp.body (T := tab) (res := [.tmp 6, .tmp 7]) zb [] Tryz.func133 rfl (by kernel_rfl) Tryz.ntmps133 rfl (by simp only [List.length_cons, List.length_nil]; decide) (by simp only [lowL, bedL, AV.low, lowI]; rfl) ?_; conv => whnf
   repeat' first | ((with_reducible first | apply XBr.ff | refine XBr.y2 fun h => ?_ | refine XBr.n2 fun h => ?_ | refine XBr.bne (fun h => ?_) fun h => ?_) <;> conv => whnf) | with_reducible apply XBr.not | ((first | refine za.ret hco ?_ | refine za.ret ham ?_); conv => whnf) | fail
   exact ⟨.low rfl⟩
  ·rw [if_neg hsh]
   rw [Bool.not_eq_false] at hsh
   rw [hsh] at ham
   have hlv : ∀ m, m <= b.months.length -> 0 <= l.getD m default /\ l.getD m default <= b.room := fun m hm => h2 _ (zB (by omega))
   refine Comp.body (T := tab) (res := [.tmp 6, .tmp 7]) zb [] Tryz.func133 rfl (by kernel_rfl) Tryz.ntmps133 rfl (by simp only [List.length_cons, List.length_nil]; decide) (by simp only [lowL, bedL, AV.low, lowI]; rfl) ?_; conv => whnf
   repeat' first | ((with_reducible first | apply XBr.tt | refine XBr.y2 fun h => ?_ | refine XBr.n2 fun h => ?_ | refine XBr.bne (fun h => ?_) fun h => ?_) <;> conv => whnf) | with_reducible apply XBr.not | ((first | refine zh.a ?_ | refine za.ret hco ?_ | refine za.ret ham ?_); conv => whnf) | fail
   have ht : ((ints l).drop (Int.toNat 0)).take (((b.months.map moA).length : Int) - 0).toNat = ints (l.take b.months.length) := by
    rw [show Int.toNat 0 = 0 from rfl, List.drop_zero, show (((b.months.map moA).length : Int) - 0).toNat = b.months.length by omega]
    exact (List.map_take ..).symm
   have hlt : (l.take b.months.length).length = b.months.length := by rw [List.length_take]; omega
   refine Walk.loopK zb [] [(1, _), (2, _), (3, _), (8, _), (31, .sl nl (ints (l.take b.months.length))), (32, .int .i64 b.months.length)] ⟨rfl, rfl, rfl, rfl, by rw [<- ht]; rfl, ?_, trivial⟩ (fun m : Nat => m <= b.months.length /\ ∀ j, j < m -> l.getD (j + 1) default <= lieR b j (l.getD j default).toNat) (fun m => [(33, natA m)]) (fun _ => []) (fun m => b.months.length - m) 0 ⟨Nat.zero_le _, fun j hj => by omega⟩ rfl ⟨rfl, trivial⟩ ?_
   ·show some (AV.int .i64 ((((ints l).drop (Int.toNat 0)).take (((b.months.map moA).length : Int) - 0).toNat).length : Int)) = _
    rw [ht, zm, hlt]
   rintro m ⟨hm1, hq⟩
   conv => whnf
   by_cases hlt2 : m < b.months.length
   ·have hmo := ok.mo' hlt2
    have hv := hlv m (by omega)
    have hv2 := hlv (m + 1) (by omega)
    have hg : (l.take b.months.length).getD m default = l.getD m default := by
     rw [List.getD_eq_getElem?_getD, List.getElem?_take, if_pos hlt2, <- List.getD_eq_getElem?_getD]
    have hgc := y9 b m (l.getD m default) (moB b m).pl (moB b m).th hlt2 hv.1 (by omega) hmo.1 hmo.2.1 (by omega) (by omega) (by omega) (by omega) (by omega) (by omega)
    have hgl : zJ b.room (b.months.getD m default).g (l.getD m default) (moB b m).pl (moB b m).th = lieR b m (l.getD m default).toNat := by
     show zJ b.room (moB b m).g (l.getD m default) (moB b m).pl (moB b m).th = zJ b.room (moB b m).g ((l.getD m default).toNat : Int) (moB b m).pl (moB b m).th
     rw [Int.toNat_of_nonneg hv.1]
    rw [hgl] at hgc
    have hgx : (l.take b.months.length).getD ((m : Int)).toNat default = l.getD m default := by rw [Int.toNat_natCast]; exact hg
    repeat' first | ((with_reducible first | refine XBr.y fun h => ?_ | refine XBr.n fun h => ?_ | refine XBr.dec (fun h => ?_) fun h => ?_ | refine XInt.a ?_ | apply Chk.go | apply ChkA.go | apply ChkF.go | apply ChkB.go | apply zw.mk) <;> conv => whnf) | ((first | refine XIx.a ?_ | refine XIx.b ?_); conv => whnf) | (with_reducible first | apply XAnd.mk | exact trivial) | (exact zd.mk rfl rfl) | (apply Walk.drawN (id := 9) zb zg [] [] (hsU _) [_, _, _, _, _, _, _, _, _, _, _, _, _, _, _, _, _, _, _] (by kernel_rfl) rfl) | ((first | refine za.ret (jj (moB b m)) ?_ | (rw [hg]; refine za.ret hgc ?_)); conv => whnf) | fail
    ·rename_i h
     have hno : ¬ wE b l share := fun k => by
      have := k.1 m hlt2
      rw [show ((m : Int) + 1).toNat = m + 1 by omega] at h
      omega
     rw [decide_eq_false hno]; exact ⟨.low rfl⟩
    ·rename_i h
     refine zk.go (m + 1) ⟨by omega, fun j hj => ?_⟩ (by omega) rfl ⟨rfl, rfl, rfl, rfl, rfl, rfl, rfl, trivial⟩
     by_cases hjm : j = m
     ·subst hjm
      rw [show ((j : Int) + 1).toNat = j + 1 by omega] at h
      omega
     ·exact hq j (by omega)
   ·obtain rfl : m = b.months.length := by omega
    repeat' first | ((with_reducible first | refine XBr.y fun h => ?_ | refine XBr.n fun h => ?_ | refine XBr.dec (fun h => ?_) fun h => ?_) <;> conv => whnf) | (refine XIx.a ?_; conv => whnf) | fail
    have hx : (b.months.map moA).length = b.months.length := List.length_map _
    rw [hx]
    have he : decide (share <= l.getD b.months.length default) = decide (wE b l share) := by rw [decide_eq_decide]; exact ⟨fun h => ⟨hq, h⟩, fun h => h.2⟩
    rw [he]; exact ⟨.low rfl⟩
 ·rw [if_pos hE] at hco ⊢
  generalize zK b l = e at hco hE
  refine Comp.body (T := tab) (res := [.tmp 6, .tmp 7]) zb [] Tryz.func133 rfl (by kernel_rfl) Tryz.ntmps133 rfl (by simp only [List.length_cons, List.length_nil]; decide) (by simp only [lowL, bedL, AV.low, lowI]; rfl) ?_; conv => whnf
  repeat' first | ((with_reducible first | refine XBr.y2 fun h => ?_ | refine XBr.n2 fun h => ?_ | refine XBr.bne (fun h => ?_) fun h => ?_) <;> conv => whnf) | ((refine za.ret hco ?_); conv => whnf) | fail
  exact ⟨.low rfl⟩
end GA
end
section
namespace GA
open Go Go.RowKit Go.Proofs
theorem jS {room g a a' sp sp' st st' : Int} (hg : 0 <= g) (h1 : a <= a') (h2 : sp <= sp') (h3 : st' <= st) : zJ room g a sp st <= zJ room g a' sp' st' := by
 unfold zJ
 have h4 : a * g <= a' * g := Int.mul_le_mul_of_nonneg_right h1 hg
 have h5 : a * g / 100 <= a' * g / 100 := Int.ediv_le_ediv (by omega) h4
 omega
theorem ge {b : Bd} (ok : BedOk b) {m n n' : Nat} (hm : m < b.months.length) (h : n <= n') : lieR b m n <= lieR b m n' := jS (ok.mo' hm).1 (by omega) (Int.le_refl _) (Int.le_refl _)
theorem zcq {b : Bd} {m n : Nat} {v : Int} (h : yB b m v = some n) : v <= lieR b m n /\ (n : Int) <= b.room.toNat /\ ∀ q, q < n -> lieR b m q < v := by
 obtain ⟨h1, h2, h3⟩ := List.find?_range_eq_some.1 h
 rw [decide_eq_true_eq] at h1
 refine ⟨h1, by have := List.mem_range.1 h2; omega, fun q hq => ?_⟩
 have := h3 q hq
 simpa using this
theorem gf {b : Bd} (ok : BedOk b) {share : Int} (hs : 0 <= share /\ share <= b.room) : ∀ (k : Nat) (l : List Int), k <= b.months.length -> flrL b share k = some l ->
  l.getD k default = share /\ (∀ x ∈ l, 0 <= x /\ x <= b.room) /\ ∀ j, j < k -> l.getD (j + 1) default <= lieR b (b.months.length - k + j) (l.getD j default).toNat /\ ∀ q : Nat, (q : Int) < l.getD j default -> lieR b (b.months.length - k + j) q < l.getD (j + 1) default
 | 0, l, _, h => by rw [flrL] at h; cases h; exact ⟨rfl, fun x hx => by rw [List.mem_singleton] at hx; subst hx; exact hs, fun j hj => by omega⟩
 | k + 1, l, hk, h => by
   rw [flrL] at h
   cases h1 : flrL b share k with
   | none => rw [h1] at h; cases h
   | some l1 =>
     rw [h1] at h; dsimp only at h
     cases h2 : yB b (b.months.length - (k + 1)) (l1.headD 0) with
     | none => rw [h2] at h; cases h
     | some n =>
       rw [h2] at h; cases h
       obtain ⟨g1, g2, g3⟩ := gf ok hs k l1 (by omega) h1
       obtain ⟨s1, s2, s3⟩ := zcq h2
       have hlen := wa h1
       have hhd : l1.headD 0 = l1.getD 0 default := by cases l1 with | nil => simp at hlen | cons x l => rfl
       rw [hhd] at s1 s3
       have r1 := ok.r1
       refine ⟨g1, fun x hx => ?_, fun j hj => ?_⟩
       ·rcases List.mem_cons.1 hx with rfl | hx
        ·omega
        ·exact g2 x hx
       ·cases j with
        | zero =>
          show l1.getD 0 default <= lieR b (b.months.length - (k + 1) + 0) (n : Int).toNat /\ ∀ q : Nat, (q : Int) < (n : Int) -> lieR b (b.months.length - (k + 1) + 0) q < l1.getD 0 default
          rw [Nat.add_zero, Int.toNat_natCast]
          exact ⟨s1, fun q hq => s3 q (by omega)⟩
        | succ j =>
          have := g3 j (by omega)
          show l1.getD (j + 1) default <= lieR b (b.months.length - (k + 1) + (j + 1)) (l1.getD j default).toNat /\ ∀ q : Nat, (q : Int) < l1.getD j default -> lieR b (b.months.length - (k + 1) + (j + 1)) q < l1.getD (j + 1) default
          rw [show b.months.length - (k + 1) + (j + 1) = b.months.length - k + j by omega]
          exact this
end GA
end
section
namespace GA
open Go Go.RowKit Go.Proofs
theorem zdu {b : Bd} {share : Int} {l : List Int} (h : zC b share = 0) (hl : flrL b share b.months.length = some l) : kW b share = .tup [.sl false (ints l), .int .i64 0] := by
 unfold kW; rw [if_neg (fun h' => h' h), hl]
theorem zdk {b : Bd} {share : Int} (h : zC b share = 0) (hl : flrL b share b.months.length = none) : kW b share = .tup [.sl true [], .int .i64 6] := by
 unfold kW; rw [if_neg (fun h' => h' h), hl]
end GA
end
section
namespace GA
open Go Go.RowKit Go.Proofs
def rkR (b : Bd) (l : List Int) (m n : Nat) : Int := max 0 (lieR b m n - l.getD (m + 1) default)
def gbR (b : Bd) (m n : Nat) : Int := zJ b.room (moB b m).g n (moB b m).ph (moB b m).tl
def mnS (F : Nat -> Int) (s : Int) (c : Nat) : Int := if s < 0 \/ F c < s then F c else s
def mnP (F : Nat -> Int) (lo c : Nat) : Int := (List.range' lo (c - lo)).foldl (mnS F) (-1)
theorem wP {F : Nat -> Int} {lo c : Nat} (h : lo <= c) : mnP F lo (c + 1) = mnS F (mnP F lo c) c := by
 unfold mnP
 rw [show c + 1 - lo = (c - lo) + 1 by omega, List.range'_1_concat, List.foldl_append, show lo + (c - lo) = c by omega]; rfl
theorem vr (F : Nat -> Int) (lo : Nat) : mnP F lo lo = -1 := by unfold mnP; rw [Nat.sub_self]; rfl
theorem mnP_b {F : Nat -> Int} {B : Int} (hB : 0 <= B) {lo : Nat} : ∀ c, lo <= c -> (∀ q, lo <= q -> q < c -> 0 <= F q /\ F q <= B) -> -1 <= mnP F lo c /\ mnP F lo c <= B /\ (lo < c -> 0 <= mnP F lo c) /\ ∀ q, lo <= q -> q < c -> mnP F lo c <= F q
 | 0, h, hF => by
   obtain rfl : lo = 0 := by omega
   rw [vr]; exact ⟨by omega, by omega, by omega, by omega⟩
 | c + 1, h, hF => by
   by_cases hl : lo = c + 1
   ·subst hl; rw [vr]; exact ⟨by omega, by omega, by omega, by omega⟩
   ·obtain ⟨h1, h2, h3, h4⟩ := mnP_b hB c (by omega) fun q a b => hF q a (by omega)
    have h5 := hF c (by omega) (by omega)
    rw [wP (by omega)]
    unfold mnS
    split
    ·rename_i h6
     refine ⟨by omega, by omega, by omega, fun q a b => ?_⟩
     by_cases hq : q = c
     ·rw [hq]; exact Int.le_refl _
     ·have := h4 q a (by omega)
      have := h3 (by omega)
      omega
    ·rename_i h6
     refine ⟨by omega, by omega, by omega, fun q a b => ?_⟩
     by_cases hq : q = c
     ·rw [hq]; omega
     ·exact h4 q a (by omega)
def smF (b : Bd) (l : List Int) : Nat -> Nat -> Int
 | 0, _ => 0
 | k + 1, n => if l.getD (b.months.length - (k + 1)) default <= n /\ (n : Int) <= b.room then
   rkR b l (b.months.length - (k + 1)) n + mnP (smF b l k) (lieR b (b.months.length - (k + 1)) n - rkR b l (b.months.length - (k + 1)) n).toNat (gbR b (b.months.length - (k + 1)) n - rkR b l (b.months.length - (k + 1)) n + 1).toNat else 0
theorem gbR_b {b : Bd} (ok : BedOk b) {m n : Nat} (hm : m < b.months.length) : lieR b m n <= gbR b m n /\ gbR b m n <= b.room := by
 have hmo := ok.mo' hm
 have r1 := ok.r1
 exact ⟨jS hmo.1 (Int.le_refl _) (by show (moB b m).pl <= _; omega) (by show _ <= (moB b m).th; omega), (ku (by omega) (by omega)).2⟩
theorem rkR_b {b : Bd} (ok : BedOk b) {l : List Int} (hl : ∀ j, j <= b.months.length -> 0 <= l.getD j default /\ l.getD j default <= b.room) {m n : Nat} (hm : m < b.months.length) : 0 <= rkR b l m n /\ rkR b l m n <= lieR b m n /\ (l.getD (m + 1) default <= lieR b m n -> l.getD (m + 1) default <= lieR b m n - rkR b l m n) := by
 have := yp ok (n := n) hm
 have := hl (m + 1) (by omega)
 unfold rkR; omega
theorem smF_b {b : Bd} (ok : BedOk b) {l : List Int} (hl : ∀ j, j <= b.months.length -> 0 <= l.getD j default /\ l.getD j default <= b.room) : ∀ k, k <= b.months.length -> ∀ n, 0 <= smF b l k n /\ smF b l k n <= 120 * k
 | 0, _, n => by unfold smF; omega
 | k + 1, hk, n => by
   have r2 := ok.r2
   by_cases h0 : 0 < b.months.length
   ·have hm : b.months.length - (k + 1) < b.months.length := by omega
    have h1 := rkR_b ok hl (n := n) hm
    have h2 := gbR_b ok (n := n) hm
    have h3 := yp ok (n := n) hm
    unfold smF
    split
    ·have h4 := mnP_b (F := smF b l k) (B := 120 * (k : Int)) (by omega) (lo := (lieR b (b.months.length - (k + 1)) n - rkR b l (b.months.length - (k + 1)) n).toNat) (gbR b (b.months.length - (k + 1)) n - rkR b l (b.months.length - (k + 1)) n + 1).toNat (by omega) fun q _ _ => by have := smF_b ok hl k (by omega) q; omega
     have := h4.2.2.1 (by omega)
     omega
    ·omega
   ·omega
def yh (b : Bd) (l : List Int) (m : Nat) : List Int := vecF (b.room.toNat + 1) (rkR b l m)
def jX (b : Bd) (l : List Int) : List AV := vecF b.months.length fun m => .sl false (ints (yh b l m))
def k9 (b : Bd) : Nat := (min b.room (b.first + b.unsure) + 1).toNat
def wi (b : Bd) (share : Int) : AV :=
 if zC b share ≠ 0 then .tup [.sl true [], .int .i64 0, .int .i64 (zC b share)]
 else match flrL b share b.months.length with
 | none => .tup [.sl true [], .int .i64 0, .int .i64 6]
 | some l => if zn b < l.getD 0 default then .tup [.sl true [], .int .i64 0, .int .i64 6] else .tup [.sl false (jX b l), .int .i64 (mnP (smF b l b.months.length) (zn b).toNat (k9 b)), .int .i64 0]
def rowV (b : Bd) (l : List Int) (m i : Nat) : AV := if i < m then .sl false (ints (yh b l i)) else .sl true []
theorem wc (b : Bd) (l : List Int) (m N : Nat) : ∀ x ∈ vecF N (rowV b l m), x.one = true := fun x hx => by
 obtain ⟨i, _, rfl⟩ := yQ.1 hx
 unfold rowV; split <;> rfl
theorem qR {α : Type} (N : Nat) (F : Nat -> α) (m : Nat) (v : α) {G : Nat -> α} (h : ∀ i, i < N -> (if i = m then v else F i) = G i) : (vecF N F).set m v = vecF N G := by
 rw [yF]; exact zy fun i hi => h i hi
theorem kJ {n : Nat} (b : Bd) (l : List Int) (m N : Nat) : lowL n (vecF N (rowV b l m)) = true := by
 rw [zA]; intro x hx
 obtain ⟨i, _, rfl⟩ := yQ.1 hx
 unfold rowV; split
 ·exact lowI _
 ·rfl
theorem zcO : (vecF 121 fun _ => (0 : Int)).map (AV.int .i64) = List.replicate 121 (.int .i64 0) := by rw [zT, List.map_replicate]
theorem XGet.vec {W n e : Nat} {F : Nat -> AV} {k : List AV -> Prop} (m : Nat) (h1 : n = W) (he : e = m) (h2 : m < W) (h : k (F m).cells) : XGet (vecF W F) n e k := by
 subst he
 refine ⟨by rw [zj, h1], by omega, ?_⟩
 rw [yq _ h2]; exact h
set_option maxHeartbeats 2000000 in
theorem rule_c (b : Bd) (share : Int) (hm : b.months.length <= 100000) (hs : b.surveys.length <= 100000) : Comp Tryz.prog 139 [bedA b, .int .i64 share] (wi b share) := by
 have hsh := wk b share hm hs
 unfold wi
 by_cases hE : zC b share = 0
 ·obtain ⟨ok, h1, h2⟩ := yx.1 hE
  have hf := zc2 b ok.toBedOk share
  have hle := zbA b ok.f1 (by have := ok.f2; have := ok.r2; omega) ok.u1 (by have := ok.u2; omega)
  have m1 := ok.m1
  have m2 := ok.m2
  have r1 := ok.r1
  have r2 := ok.r2
  have f1 := ok.f1
  have f2 := ok.f2
  have u1 := ok.u1
  have u2 := ok.u2
  have e1 : ((b.months.map moA).length : Int) = b.months.length := by rw [List.length_map]
  have hlb : 0 <= zn b /\ zn b <= b.room := by unfold zn; omega
  rw [gD hE] at hsh
  rw [if_neg (fun h => h hE)]
  cases hfl : flrL b share b.months.length with
  | none =>
    rw [hfl] at hf
    refine Comp.body (T := tab) (res := [.tmp 4, .tmp 5, .tmp 6]) zb [] Tryz.func139 rfl (by kernel_rfl) Tryz.ntmps139 rfl (by simp only [List.length_cons, List.length_nil]; decide) (by simp only [lowL, bedL, AV.low]; rfl) ?_; conv => whnf
    repeat' first | ((with_reducible first | apply XBr.tt | refine XBr.y2 fun h => ?_ | refine XBr.n2 fun h => ?_ | refine XBr.bne (fun h => ?_) fun h => ?_ | apply Chk.go | apply ChkA.go | apply ChkF.go | apply ChkB.go | apply zw.mk) <;> conv => whnf) | (with_reducible first | apply XAnd.mk | exact trivial) | (exact zd.mk rfl rfl) | (apply Walk.drawN (id := 5) zb zg [] [] (hsU _) [_, _, _, _, _, _, _, _, _, _] (by kernel_rfl) rfl) | ((first | refine za.ret hsh ?_ | refine za.ret hf ?_); conv => whnf) | fail
    exact ⟨.low rfl⟩
  | some l =>
    rw [hfl] at hf
    obtain ⟨g1, g2, g3⟩ := gf ok.toBedOk ⟨h1, h2⟩ _ l (Nat.le_refl _) hfl
    have hlen := wa hfl
    have hll : ((ints l).length : Int) = b.months.length + 1 := by rw [zm]; omega
    have hl : ∀ j, j <= b.months.length -> 0 <= l.getD j default /\ l.getD j default <= b.room := fun j hj => g2 _ (zB (by omega))
    dsimp only
    by_cases hlt : zn b < l.getD 0 default
    ·rw [if_pos hlt]
     generalize zn b = z at hle hlt
     have hlt' : decide (z < l.getD (Int.toNat 0) default) = true := decide_eq_true hlt
     refine Comp.body (T := tab) (res := [.tmp 4, .tmp 5, .tmp 6]) zb [] Tryz.func139 rfl (by kernel_rfl) Tryz.ntmps139 rfl (by simp only [List.length_cons, List.length_nil]; decide) (by simp only [lowL, bedL, AV.low]; rfl) ?_; conv => whnf
     repeat' first | ((with_reducible first | apply XBr.ff | refine XBr.y fun h => ?_ | refine XBr.n fun h => ?_ | refine XBr.dec (fun h => ?_) fun h => ?_ | refine XBr.y2 fun h => ?_ | refine XBr.n2 fun h => ?_ | refine XBr.bne (fun h => ?_) fun h => ?_ | apply Chk.go | apply ChkA.go | apply ChkF.go | apply ChkB.go | apply zw.mk) <;> conv => whnf) | ((first | refine zh.a ?_ | refine XIx.b ?_); conv => whnf) | (with_reducible first | apply XAnd.mk | exact trivial) | (exact zd.mk rfl rfl) | (apply Walk.drawN (id := 5) zb zg [] [] (hsU _) [_, _, _, _, _, _, _, _, _, _] (by kernel_rfl) rfl) | ((first | refine za.ret hsh ?_ | refine za.ret hf ?_ | refine za.ret hle ?_); conv => whnf) | fail
     ·exact ⟨.low rfl⟩
     ·rename_i h; exact absurd hlt h
    ·rw [if_neg hlt]
     have hlt' : decide (zn b < l.getD (Int.toNat 0) default) = false := decide_eq_false hlt
     refine Comp.body (T := tab) (res := [.tmp 4, .tmp 5, .tmp 6]) zb [] Tryz.func139 rfl (by kernel_rfl) Tryz.ntmps139 rfl (by simp only [List.length_cons, List.length_nil]; decide) (by simp only [lowL, bedL, AV.low]; rfl) ?_; conv => whnf
     repeat' first | ((with_reducible first | apply XBr.ff | refine XBr.y fun h => ?_ | refine XBr.n fun h => ?_ | refine XBr.dec (fun h => ?_) fun h => ?_ | refine XBr.y2 fun h => ?_ | refine XBr.n2 fun h => ?_ | refine XBr.bne (fun h => ?_) fun h => ?_ | apply Chk.go | apply ChkA.go | apply ChkF.go | apply ChkB.go | apply zw.mk) <;> conv => whnf) | ((first | refine zh.a ?_ | refine XIx.b ?_); conv => whnf) | (with_reducible first | apply XAnd.mk | exact trivial) | (exact zd.mk rfl rfl) | (apply Walk.drawN (id := 5) zb zg [] [] (hsU _) [_, _, _, _, _, _, _, _, _, _] (by kernel_rfl) rfl) | ((first | refine za.ret hsh ?_ | refine za.ret hf ?_ | refine za.ret hle ?_ | refine zh.mk (by rw [List.length_replicate]) ?_); conv => whnf) | fail
     ·rename_i h; exact absurd h hlt
     refine Walk.loopGK zb [] [(2, _), (4, _), (5, _), (6, _), (7, _), (9, _), (10, .gr 0 b.months.length), (50, .int .i64 b.months.length)] ⟨rfl, rfl, rfl, rfl, rfl, rfl, ?_, ?_, trivial⟩ (fun m : Nat => m <= b.months.length) (fun m => [(51, natA m)]) (fun m => [.grow 22 false (vecF b.months.length (rowV b l m))]) (fun m => b.months.length - m) 0 (Nat.zero_le _) ?_ ⟨rfl, trivial⟩ ?_ (fun _ _ => (show (1 : Nat) <= 1 from Nat.le_refl 1)) ?_
     ·show some (AV.gr 0 (((b.months.map moA).length : Int)).toNat) = _
      rw [e1, Int.toNat_natCast]
     ·show some (AV.int .i64 ((((b.months.map moA).length : Int)).toNat : Nat)) = _
      rw [e1, Int.toNat_natCast]
     ·show _ = [Blk.grow _ false (List.replicate (((b.months.map moA).length : Int)).toNat (AV.sl true []))]
      rw [e1, Int.toNat_natCast, <- zT]
      refine congrArg (fun x => [Blk.grow _ false x]) (zy fun i _ => ?_)
      unfold rowV; rw [if_neg (by omega)]
     ·intro m _
      refine ⟨fun z hz => ?_, fun z hz => ?_⟩
      ·rw [List.mem_singleton] at hz; subst hz; exact kJ b l m _
      ·simp only [List.cons_append, List.nil_append, List.mem_cons, List.not_mem_nil, or_false] at hz
       rcases hz with rfl | rfl | rfl | rfl | rfl | rfl | rfl | rfl | rfl <;> first | rfl | exact dskL b | exact zY b | exact lowI _
     ·intro m hm
      have hvl : (vecF b.months.length (rowV b l m)).length = b.months.length := zj _ _
      conv => whnf
      by_cases hmM : m < b.months.length
      ·have hmo := ok.mo' hmM
       repeat' ((with_reducible first | refine XBr.y fun h => ?_ | refine XBr.n fun h => ?_ | refine XBr.dec (fun h => ?_) fun h => ?_ | refine XInt.a ?_) <;> conv => whnf)
       refine Walk.nilRowIn 0 m 3 rfl (wc b l m _) ?_ ?_
       ·rw [zO, if_pos hmM]; unfold rowV; rw [if_neg (by omega)]
       have hone : ∀ n, ∀ x ∈ (vecF b.months.length (rowV b l m)).set m (.gr 1 n), x.one = true := fun n x hx => by
        rcases List.mem_or_eq_of_mem_set hx with hx | rfl
        ·exact wc b l m _ x hx
        ·rfl
       refine Walk.loopKW [(2, _), (4, _), (5, _), (6, _), (7, _), (9, _), (10, _), (11, _), (50, _), (51, _), (56, _)] ⟨rfl, rfl, rfl, rfl, rfl, rfl, rfl, rfl, rfl, rfl, rfl, trivial⟩ (fun n : Nat => (n : Int) <= b.room + 1) (fun n => [(57, natA n)]) (fun n => [.grow 22 false ((vecF b.months.length (rowV b l m)).set m (.gr 1 (vecF n (rkR b l m)).length)), .grow 3 (vecF n (rkR b l m)).isEmpty (ints (vecF n (rkR b l m)))]) (fun n => (b.room + 1).toNat - n) 0 (by omega) ?_ ⟨rfl, trivial⟩ ?_
       ·have e0 : vecF 0 (rkR b l m) = [] := by rw [ya]; rfl
        rw [e0]; rfl
       intro n hn
       have hvn : (ints (vecF n (rkR b l m))).length = (vecF n (rkR b l m)).length := zm _
       have hvn2 : (vecF n (rkR b l m)).length = n := zj _ _
       have hsl : ((vecF b.months.length (rowV b l m)).set m (.gr 1 (vecF n (rkR b l m)).length)).length = b.months.length := by rw [List.length_set, zj]
       by_cases hnr : (n : Int) <= b.room
       ·have hgc := y9 b m n (moB b m).pl (moB b m).th hmM (by omega) (by omega) hmo.1 hmo.2.1 (by omega) (by omega) (by omega) (by omega) (by omega) (by omega)
        change Comp Tryz.prog _ _ (.int .i64 (lieR b m n)) at hgc
        have hlb2 := yp ok.toBedOk (j := m) (n := n) hmM
        have hlm := hl (m + 1) (by omega)
        have hlx : l.getD ((m : Int) + 1).toNat default = l.getD (m + 1) default := by rw [show ((m : Int) + 1).toNat = m + 1 by omega]
        have hgr := yX 0 false [lieR b m n - l.getD ((m : Int) + 1).toNat default] (by simp)
        refine Walk.run zb [] ?_
        conv => whnf
        repeat' first | ((with_reducible first | refine XBr.y fun h => ?_ | refine XBr.n fun h => ?_ | refine XBr.dec (fun h => ?_) fun h => ?_ | refine XInt.a ?_ | apply Chk.go | apply ChkA.go | apply ChkF.go | apply ChkB.go | apply zw.mk) <;> conv => whnf) | ((first | refine zh.a ?_ | refine XIx.a ?_ | refine XIx.b ?_); conv => whnf) | (with_reducible first | apply XAnd.mk | exact trivial) | (exact zd.mk rfl rfl) | (apply Walk.drawN (id := 14) zb zg [] [28, 30] (hsC [_, _, _]) [_, _, _, _, _, _, _, _, _, _, _, _, _, _, _, _, _, _, _, _, _, _, _, _, _, _, _, _, _, _, _] (by kernel_rfl) rfl) | ((first | refine zh.mk ⟨hsl, rfl, by omega, by omega⟩ ?_ | refine XGet.set (by omega) (by omega) (by rw [zj]) ?_ | refine za.ret (jj (moB b m)) ?_ | refine za.ret hgc ?_ | refine za.ret hgr ?_ | refine XPut.set (by omega) (by omega) (by rw [zj]) ?_); conv => whnf) | fail
        have hrk : [lieR b m n - l.getD ((m : Int) + 1).toNat default].foldl max 0 = rkR b l m n := by rw [hlx]; rfl
        have hvs : vecF (n + 1) (rkR b l m) = vecF n (rkR b l m) ++ [rkR b l m n] := by rw [vecF, dif_neg (by omega), Nat.add_sub_cancel]
        refine zk.go (n + 1) (by omega) (by omega) ?_ ⟨rfl, rfl, rfl, rfl, rfl, rfl, rfl, rfl, rfl, rfl, rfl, rfl, trivial⟩
        rw [hvs, <- hrk]
        show [Blk.grow _ false (List.set _ m (.gr 1 (vecF n (rkR b l m) ++ [_]).length)), Blk.grow _ (vecF n (rkR b l m) ++ [_]).isEmpty ((vecF n (rkR b l m) ++ [_]).map (AV.int .i64))] = _
        rw [zD, List.map_append, List.length_append]
        rfl
       ·obtain rfl : n = b.room.toNat + 1 := by omega
        refine Walk.freezeRow 0 m 1 (vecF (b.room.toNat + 1) (rkR b l m)).length rfl (hone _) (by rw [List.getElem?_set_self (by rw [zj]; exact hmM)]) rfl (by decide) hvn ?_
        refine Walk.run zb [] ?_
        conv => whnf
        repeat' ((with_reducible first | refine XBr.y fun h => ?_ | refine XBr.n fun h => ?_ | refine XBr.dec (fun h => ?_) fun h => ?_ | refine XInt.a ?_) <;> conv => whnf)
        refine zp.go (m + 1) [.dead] (by omega) (by omega) ?_ ⟨rfl, rfl, rfl, rfl, rfl, rfl, rfl, rfl, rfl, trivial⟩
        show [Blk.grow _ false (vecF b.months.length (rowV b l (m + 1))), Blk.dead] = [Blk.grow _ false (((vecF b.months.length (rowV b l m)).set m _).set m (.sl (vecF (b.room.toNat + 1) (rkR b l m)).isEmpty (ints (vecF (b.room.toNat + 1) (rkR b l m))))), Blk.dead]
        rw [List.set_set, qR]
        intro i _
        unfold rowV
        by_cases hi : i = m
        ·subst hi
         have e5 : (vecF (b.room.toNat + 1) (rkR b l i)).isEmpty = false := by
          cases h : vecF (b.room.toNat + 1) (rkR b l i) with
          | nil => rw [h] at hvn2; simp at hvn2
          | cons x y => rfl
         rw [if_pos rfl, if_pos (by omega), e5]; rfl
        ·rw [if_neg hi]
         by_cases hi2 : i < m
         ·rw [if_pos hi2, if_pos (by omega)]
         ·rw [if_neg hi2, if_neg (by omega)]
      ·obtain rfl : m = b.months.length := by omega
       have hrA : vecF b.months.length (rowV b l b.months.length) = jX b l := zy fun i hi => by unfold rowV; rw [if_pos hi]
       rw [hrA]
       have hrl : (jX b l).length = b.months.length := zj _ _
       have hsm := smF_b ok.toBedOk hl
       repeat' ((with_reducible first | refine XBr.y fun h => ?_ | refine XBr.n fun h => ?_ | refine XBr.dec (fun h => ?_) fun h => ?_ | refine XInt.a ?_) <;> conv => whnf)
       refine Walk.loopGK zb [] [(2, _), (4, _), (5, _), (6, _), (7, _), (9, _), (10, _), (13, _)] ⟨rfl, rfl, rfl, rfl, rfl, rfl, rfl, rfl, trivial⟩ (fun k : Nat => k <= b.months.length) (fun k => [(14, .int .i64 ((b.months.length : Int) - 1 - k))]) (fun k => [.grow 22 false (jX b l), .cells ((vecF 121 (smF b l k)).map (.int .i64))]) (fun k => b.months.length - k) 0 (Nat.zero_le _) ?_ ⟨?_, trivial⟩ ?_ (fun _ _ => (show (2 : Nat) <= 2 from Nat.le_refl 2)) ?_
       ·have e0 : vecF 121 (smF b l 0) = vecF 121 fun _ => 0 := rfl
        rw [e0, zcO]
       ·show some (AV.int .i64 (((b.months.map moA).length : Int) - 1)) = _
        refine congrArg (fun z => some (AV.int .i64 z)) (by omega)
       ·intro k _
        refine ⟨fun z hz => ?_, fun z hz => ?_⟩
        ·simp only [List.mem_cons, List.not_mem_nil, or_false] at hz
         rcases hz with rfl | rfl
         ·rw [<- hrA]; exact kJ b l _ _
         ·exact g8 fun _ => rfl
        ·simp only [List.cons_append, List.nil_append, List.mem_cons, List.not_mem_nil, or_false] at hz
         rcases hz with rfl | rfl | rfl | rfl | rfl | rfl | rfl | rfl | rfl <;> first | rfl | exact dskL b | exact zY b | exact lowI _
       ·intro k hk
        conv => whnf
        by_cases hkM : k < b.months.length
        ·obtain ⟨m, hmk⟩ : ∃ m : Nat, (b.months.length : Int) - 1 - k = m := ⟨b.months.length - 1 - k, by omega⟩
         have hm1 : m < b.months.length := by omega
         have hmo := ok.mo' hm1
         have hlm := hl m (by omega)
         have hrr : (yh b l m).length = b.room.toNat + 1 := zj _ _
         have hsk : ∀ n, smF b l (k + 1) n = if l.getD m default <= n /\ (n : Int) <= b.room then rkR b l m n + mnP (smF b l k) (lieR b m n - rkR b l m n).toNat (gbR b m n - rkR b l m n + 1).toNat else 0 := fun n => by
          rw [smF, show b.months.length - (k + 1) = m by omega]
         rw [hmk]
         repeat' first | ((with_reducible first | refine XBr.y fun h => ?_ | refine XBr.n fun h => ?_ | refine XBr.dec (fun h => ?_) fun h => ?_) <;> conv => whnf) | (refine XIx.a ?_; conv => whnf) | fail
         refine Walk.loopK zb [] [(2, _), (4, _), (5, _), (6, _), (7, _), (9, _), (10, _), (13, _), (14, _), (15, _), (16, _)] ⟨rfl, rfl, rfl, rfl, rfl, rfl, rfl, rfl, rfl, rfl, rfl, trivial⟩ (fun n : Nat => l.getD m default <= n /\ (n : Int) <= b.room + 1) (fun n => [(17, natA n)]) (fun n => [.grow 22 false (jX b l), .cells ((vecF 121 (smF b l k)).map (.int .i64)), .cells ((vecF 121 fun q => if q < n then smF b l (k + 1) q else 0).map (.int .i64)), .cells (moC (moB b m))]) (fun n => (b.room + 1).toNat - n) (l.getD m default).toNat ⟨by omega, by omega⟩ ?_ ⟨?_, trivial⟩ ?_
         ·rw [show (vecF 121 fun q => if q < (l.getD m default).toNat then smF b l (k + 1) q else 0) = vecF 121 fun _ => 0 from zy fun q _ => by
           by_cases hq : q < (l.getD m default).toNat
           ·rw [if_pos hq, hsk, if_neg (by omega)]
           ·rw [if_neg hq], zcO]
          rfl
         ·exact congrArg (fun z => some (AV.int .i64 z)) (show l.getD ((m : Int)).toNat default = (((l.getD m default).toNat : Nat) : Int) by rw [Int.toNat_natCast]; omega)
         rintro n ⟨hn1, hn2⟩
         conv => whnf
         by_cases hnr : (n : Int) <= b.room
         ·have hgc := y9 b m n (moB b m).pl (moB b m).th hm1 (by omega) (by omega) hmo.1 hmo.2.1 (by omega) (by omega) (by omega) (by omega) (by omega) (by omega)
          change Comp Tryz.prog _ _ (.int .i64 (lieR b m n)) at hgc
          have hgx := y9 b m n (moB b m).ph (moB b m).tl hm1 (by omega) (by omega) hmo.1 hmo.2.1 (by omega) (by omega) (by omega) (by omega) (by omega) (by omega)
          change Comp Tryz.prog _ _ (.int .i64 (gbR b m n)) at hgx
          have hlb2 := yp ok.toBedOk (j := m) (n := n) hm1
          have hgb := gbR_b ok.toBedOk (n := n) hm1
          have hrb := rkR_b ok.toBedOk hl (n := n) hm1
          have hrv : (yh b l m).getD n default = rkR b l m n := yq _ (by omega)
          have hskn := hsk n
          obtain ⟨lo0, hlo0⟩ : ∃ lo0, lo0 = (lieR b m n - rkR b l m n).toNat := ⟨_, rfl⟩
          rw [<- hlo0] at hskn
          rw [if_pos ⟨hn1, hnr⟩] at hskn
          repeat' first | ((with_reducible first | refine XBr.y fun h => ?_ | refine XBr.n fun h => ?_ | refine XBr.dec (fun h => ?_) fun h => ?_ | refine XInt.a ?_ | apply Chk.go | apply ChkA.go | apply ChkF.go | apply ChkB.go | apply zw.mk) <;> conv => whnf) | (refine XIx.a ?_; conv => whnf) | (with_reducible first | apply XAnd.mk | exact trivial) | (exact zd.mk rfl rfl) | (apply Walk.drawN (id := 28) zb zg [] [] (hsU _) [_, _, _, _, _, _, _, _, _, _, _, _] (by kernel_rfl) rfl) | ((first | refine zh.mk ⟨hrl, rfl, by omega, by omega⟩ ?_ | refine XGet.vec (W := b.months.length) m rfl (by omega) (by omega) ?_ | refine za.ret (jj (moB b m)) ?_ | refine za.ret hgc ?_); conv => whnf) | fail
          have hml := fun (c : Nat) (hc : lo0 <= c) => mnP_b (F := smF b l k) (B := 120 * (k : Int)) (by omega) (lo := lo0) c hc fun q _ _ => by have := hsm k (by omega) q; omega
          refine Walk.loopK zb [] [(2, _), (4, _), (5, _), (6, _), (7, _), (9, _), (10, _), (13, _), (14, _), (15, _), (16, _), (17, _), (18, .int .i64 (rkR b l m n))] ⟨rfl, rfl, rfl, rfl, rfl, rfl, rfl, rfl, rfl, rfl, rfl, rfl, congrArg (fun z => some (AV.int .i64 z)) hrv, trivial⟩ (fun c : Nat => lo0 <= c /\ (c : Int) <= gbR b m n - rkR b l m n + 1) (fun c => [(19, .int .i64 (mnP (smF b l k) lo0 c)), (20, natA c)]) (fun _ => [.grow 22 false (jX b l), .cells ((vecF 121 (smF b l k)).map (.int .i64)), .cells ((vecF 121 fun q => if q < n then smF b l (k + 1) q else 0).map (.int .i64)), .cells (moC (moB b m))]) (fun c => (gbR b m n - rkR b l m n + 1).toNat - c) lo0 ⟨Nat.le_refl _, by omega⟩ rfl ⟨congrArg (fun z => some (AV.int .i64 z)) (vr _ _).symm, congrArg (fun z => some (AV.int .i64 z)) (show lieR b m n - (yh b l m).getD n default = (lo0 : Int) by rw [hrv]; omega), trivial⟩ ?_
          rintro c ⟨hc1, hc2⟩
          have hmc := hml c hc1
          have hsc := hsm k (by omega) c
          have hmn := wP (F := smF b l k) hc1
          unfold mnS at hmn
          generalize hz : mnP (smF b l k) lo0 c = z at hmc hmn
          conv => whnf
          by_cases hcl : (c : Int) <= gbR b m n - rkR b l m n
          ·skip
           repeat' first | ((with_reducible first | apply XBr.tt | apply XBr.ff | refine XBr.y fun h => ?_ | refine XBr.n fun h => ?_ | refine XBr.dec (fun h => ?_) fun h => ?_ | refine XInt.a ?_ | apply Chk.go | apply ChkA.go | apply ChkF.go | apply ChkB.go | apply zw.mk) <;> conv => whnf) | (with_reducible first | apply XAnd.mk | exact trivial) | (exact zd.mk rfl rfl) | (((with_reducible refine XArr.ptr ?_ ?_ ?_); omega; omega); conv => whnf) | (apply Walk.drawN (id := 29) zb zg [] [] (hsU _) [_, _, _, _, _, _, _, _, _, _, _, _, _] (by kernel_rfl) rfl) | ((first | refine za.ret (zb1 (moB b m)) ?_ | refine za.ret hgx ?_ | refine kZ c (by omega) (by omega) ?_); conv => whnf) | fail
           all_goals refine zk.go (c + 1) ⟨by omega, by omega⟩ (by omega) rfl ⟨rfl, rfl, rfl, rfl, rfl, rfl, rfl, rfl, rfl, rfl, rfl, rfl, rfl, congrArg (fun z => some (AV.int .i64 z)) ?_, rfl, trivial⟩
           all_goals (rw [hmn]; first | rw [if_pos (by omega)] | rw [if_neg (by omega)])
          ·obtain hcc : c = (gbR b m n - rkR b l m n + 1).toNat := by omega
           repeat' first | ((with_reducible first | refine XBr.y fun h => ?_ | refine XBr.n fun h => ?_ | refine XBr.dec (fun h => ?_) fun h => ?_ | refine XInt.a ?_ | apply Chk.go | apply ChkA.go | apply ChkF.go | apply ChkB.go | apply zw.mk) <;> conv => whnf) | (with_reducible first | apply XAnd.mk | exact trivial) | (exact zd.mk rfl rfl) | (((with_reducible refine XArr.ptr ?_ ?_ ?_); omega; omega); conv => whnf) | (apply Walk.drawN (id := 29) zb zg [] [] (hsU _) [_, _, _, _, _, _, _, _, _, _, _, _, _] (by kernel_rfl) rfl) | ((first | refine za.ret (zb1 (moB b m)) ?_ | refine za.ret hgx ?_ | refine xspl_vec _ n (by omega) (by omega) ?_); conv => whnf) | fail
           rw [<- hcc, hz] at hskn
           refine zk.go (n + 1) ⟨by omega, by omega⟩ (by omega) ?_ ⟨rfl, rfl, rfl, rfl, rfl, rfl, rfl, rfl, rfl, rfl, rfl, rfl, trivial⟩
           rw [show (vecF 121 fun q => if q < n + 1 then smF b l (k + 1) q else 0) = vecF 121 (updV (fun q => if q < n then smF b l (k + 1) q else 0) n (rkR b l m n + z)) from zy fun q _ => by
            unfold updV
            by_cases hq : q = n
            ·rw [if_pos hq, hq, if_pos (by omega), hskn]
            ·rw [if_neg hq]
             dsimp only
             by_cases hq2 : q < n
             ·rw [if_pos hq2, if_pos (by omega)]
             ·rw [if_neg hq2, if_neg (by omega)]]
         ·obtain rfl : n = b.room.toNat + 1 := by omega
          repeat' first | ((with_reducible first | refine XBr.y fun h => ?_ | refine XBr.n fun h => ?_ | refine XBr.dec (fun h => ?_) fun h => ?_ | refine XInt.a ?_) <;> conv => whnf) | ((first | refine ka rfl ?_ | refine zbG rfl ?_ | refine zbp ?_); conv => whnf) | fail
          refine zp.go (k + 1) [.cells ((vecF 121 fun q => if q < b.room.toNat + 1 then smF b l (k + 1) q else 0).map (.int .i64)), .cells (moC (moB b m))] (by omega) (by omega) ?_ ⟨rfl, rfl, rfl, rfl, rfl, rfl, rfl, rfl, ?_, trivial⟩
          ·rw [show vecF 121 (smF b l (k + 1)) = vecF 121 fun q => if q < b.room.toNat + 1 then smF b l (k + 1) q else 0 from zy fun q _ => by
            by_cases hq : q < b.room.toNat + 1
            ·rw [if_pos hq]
            ·rw [if_neg hq, hsk, if_neg (by omega)]]
           rfl
          ·exact congrArg (fun z => some (AV.int .i64 z)) (by omega)
        ·obtain rfl : k = b.months.length := by omega
         have hln : (((zn b).toNat : Nat) : Int) = zn b := by omega
         rw [<- hln] at hle
         repeat' first | ((with_reducible first | refine XBr.y fun h => ?_ | refine XBr.n fun h => ?_ | refine XBr.dec (fun h => ?_) fun h => ?_) <;> conv => whnf) | ((refine za.ret hle ?_); conv => whnf) | fail
         have hln2 : (k9 b : Int) = min b.room (b.first + b.unsure) + 1 := by unfold k9; omega
         have hln3 : (zn b).toNat < k9 b := by
          have : zn b = max 0 (b.first - b.unsure) := rfl
          omega
         have hml := fun (c : Nat) (hc : (zn b).toNat <= c) => mnP_b (F := smF b l b.months.length) (B := 120 * (b.months.length : Int)) (by omega) (lo := (zn b).toNat) c hc fun q _ _ => by have := hsm b.months.length (Nat.le_refl _) q; omega
         refine Walk.loopK zb [] [(2, _), (4, _), (5, _), (6, _), (10, _), (13, _)] ⟨rfl, rfl, rfl, rfl, rfl, rfl, trivial⟩ (fun c : Nat => (zn b).toNat <= c /\ c <= k9 b) (fun c => [(21, .int .i64 (mnP (smF b l b.months.length) (zn b).toNat c)), (22, natA c)]) (fun _ => [.grow 22 false (jX b l), .cells ((vecF 121 (smF b l b.months.length)).map (.int .i64))]) (fun c => k9 b - c) (zn b).toNat ⟨Nat.le_refl _, by omega⟩ rfl ⟨congrArg (fun z => some (AV.int .i64 z)) (vr _ _).symm, rfl, trivial⟩ ?_
         rintro c ⟨hc1, hc2⟩
         have hmc := hml c hc1
         have hsc := hsm b.months.length (Nat.le_refl _) c
         have hmn := wP (F := smF b l b.months.length) hc1
         unfold mnS at hmn
         generalize hz : mnP (smF b l b.months.length) (zn b).toNat c = z at hmc hmn
         conv => whnf
         by_cases hcl : c < k9 b
         ·skip
          repeat' first | ((with_reducible first | apply XBr.tt | apply XBr.ff | refine XBr.y fun h => ?_ | refine XBr.n fun h => ?_ | refine XBr.dec (fun h => ?_) fun h => ?_ | refine XInt.a ?_) <;> conv => whnf) | ((first | ((with_reducible refine XArr.ptr ?_ ?_ ?_); omega; omega) | (refine kZ c (by omega) (by omega) ?_)); conv => whnf) | fail
          all_goals refine zk.go (c + 1) ⟨by omega, by omega⟩ (by omega) rfl ⟨rfl, rfl, rfl, rfl, rfl, rfl, congrArg (fun z => some (AV.int .i64 z)) ?_, rfl, trivial⟩
          all_goals (rw [hmn]; first | rw [if_pos (by omega)] | rw [if_neg (by omega)])
         ·obtain rfl : c = k9 b := by omega
          repeat' ((with_reducible first | refine XBr.y fun h => ?_ | refine XBr.n fun h => ?_ | refine XBr.dec (fun h => ?_) fun h => ?_ | refine XInt.a ?_) <;> conv => whnf)
          rw [hz]
          exact ⟨Froz.tup (.cons (Froz.grow rfl hrl (by rw [<- hrA]; exact kJ b l _ _)) (.cons (.low rfl) (.cons (.low rfl) .nil)))⟩
 ·rw [if_pos hE]
  obtain ⟨d, hd, hd2⟩ := gF b share
  rw [hd] at hsh
  generalize zC b share = e at hsh hE
  refine Comp.body (T := tab) (res := [.tmp 4, .tmp 5, .tmp 6]) zb [] Tryz.func139 rfl (by kernel_rfl) Tryz.ntmps139 rfl (by simp only [List.length_cons, List.length_nil]; decide) (by simp only [lowL, bedL, AV.low]; rfl) ?_; conv => whnf
  repeat' first | ((with_reducible first | refine XBr.y2 fun h => ?_ | refine XBr.n2 fun h => ?_ | refine XBr.bne (fun h => ?_) fun h => ?_) <;> conv => whnf) | ((refine za.ret hsh ?_); conv => whnf) | fail
  exact ⟨.low rfl⟩
end GA
end
section
namespace GA
open Go Go.RowKit Go.Proofs
theorem zcM (k n : Nat) : ∀ (cs : List Nat) (s : List Int), cs.Nodup -> cs.foldl (fun s c => if c = k then s ++ [(n : Int)] else s) s = if k ∈ cs then s ++ [(n : Int)] else s
 | [], s, _ => by simp
 | c :: cs, s, h => by
   rw [List.foldl_cons, zcM k n cs _ (List.nodup_cons.1 h).2]
   by_cases hc : c = k
   ·subst hc
    have := (List.nodup_cons.1 h).1
    simp [this]
   ·have : (k ∈ c :: cs) ↔ k ∈ cs := by simp [Ne.symm hc]
    simp only [hc, if_false, this]
def befF (b : Bd) (m k n : Nat) : Bool := decide (k ∈ lvL b m n)
theorem before_c (b : Bd) (ok : BdOk b) (m k : Nat) (hm : m < b.months.length) (hk : (k : Int) <= b.room) : Comp Tryz.prog 116 [bedA b, natA m, natA k] (.tup [slA (lstF (befF b m k) (b.room + 1).toNat), .int .i64 0]) := by
 have r1 := ok.r1
 have r2 := ok.r2
 have e1 : ((b.months.map moA).length : Int) = b.months.length := by rw [List.length_map]
 have ho := kv b ok
 have hmn := zas b m (by have := ok.m2; omega)
 have ham := zS b k
 have h1 : inZ (m : Int) 0 ((b.months.length : Int) - 1) = true := zx.2 ⟨by omega, by omega⟩
 have h2 : inZ (k : Int) 0 b.room = true := zx.2 ⟨by omega, by omega⟩
 rw [h1] at hmn
 rw [h2] at ham
 refine Comp.body (T := tab) (res := [.tmp 6, .tmp 7]) zb [] Tryz.func116 rfl (by kernel_rfl) Tryz.ntmps116 rfl (by simp only [List.length_cons, List.length_nil]; decide) (by simp only [lowL, bedL, AV.low]; rfl) ?_; conv => whnf
 repeat' first | ((with_reducible first | apply XBr.tt | refine XBr.y2 fun h => ?_ | refine XBr.n2 fun h => ?_ | refine XBr.bne (fun h => ?_) fun h => ?_ | refine XInt.a ?_ | apply Chk.go | apply ChkA.go | apply ChkF.go | apply ChkB.go | apply zw.mk) <;> conv => whnf) | (with_reducible first | apply XBr.not | apply XAnd.mk | exact trivial) | (exact zd.mk rfl rfl) | (apply Walk.drawN (id := 6) zb zg [] [] (hsU _) [_, _, _, _, _, _, _, _] (by kernel_rfl) rfl) | ((first | refine za.ret ho ?_ | refine za.ret hmn ?_ | refine za.ret ham ?_); conv => whnf) | fail
 refine Walk.nilcell 0 0 3 rfl rfl ?_
 refine Walk.loopM zb [] (fun n : Nat => (n : Int) <= b.room + 1) (fun n => [(1, natA m), (3, .pim (bedC b)), (5, .pim [natA k]), (8, dskA b), (10, .ptr 0 0), (40, .int .i64 (b.room + 1)), (41, natA n)]) (fun n => [.cells [.gr 1 (lstF (befF b m k) n).length], .grow 3 (lstF (befF b m k) n).isEmpty (ints (lstF (befF b m k) n))]) (fun n => (b.room + 1).toNat - n) 0 2 (by omega) rfl rfl ⟨rfl, rfl, rfl, rfl, rfl, rfl, rfl, trivial⟩ ?_
 intro n hn
 have hs := kw (befF b m k) n
 have hl := yR (befF b m k) n
 have hl2 : (ints (lstF (befF b m k) n)).length = (lstF (befF b m k) n).length := zm _
 generalize hxs : lstF (befF b m k) n = xs at hs hl hl2
 conv => whnf
 by_cases hnr : (n : Int) < b.room + 1
 ·skip
  repeat' ((with_reducible first | refine XBr.y fun h => ?_ | refine XBr.n fun h => ?_ | refine XBr.dec (fun h => ?_) fun h => ?_) <;> conv => whnf)
  refine za.ret (j7 b ok.toBedOk m n hm) ?_
  conv => whnf
  refine Walk.range (own := []) zb [(5, .pim [natA k]), (10, .ptr 0 0), (11, .ptr 2 0)] rfl ⟨rfl, rfl, rfl, trivial⟩ ?_
  intro fn
  refine jJ b ok.toBedOk m n _ hm (by omega) _ _ ?_
  have hnd : (lvL b m n).Nodup := by unfold lvL lvF; exact List.nodup_range'
  have hfold := zcM k n (lvL b m n) xs hnd
  refine wh.go (S := List Int) (fun s => [.cells [.gr 1 s.length], .grow 3 s.isEmpty (ints s), .cells [natA n], .raw (.deferred (some [])), .lp .ready none fn [(5, .pim [natA k]), (10, .ptr 0 0), (11, .ptr 2 0)] #[48] _ _ _]) (fun s c => if c = k then s ++ [(n : Int)] else s) (fun s cs => s.length + cs.length <= 100000 /\ ∀ c ∈ cs, (c : Int) <= b.room) xs rfl ?_ ?_ ?_
  ·intro s c cs hcs
   obtain ⟨q1, q2⟩ := hcs
   have q3 := q2 c List.mem_cons_self
   rw [List.length_cons] at q1
   have hsl : (ints s).length = s.length := zm _
   refine ⟨jH.go (own := []) zb rfl rfl (by decide) ?_, ?_, fun c' hc' => q2 c' (List.mem_cons_of_mem _ hc')⟩
   ·intro ρ
    conv => whnf
    repeat' first | ((with_reducible first | refine XBr.y1 fun h => ?_ | refine XBr.n1 fun h => ?_ | refine XBr.beq (fun h => ?_) fun h => ?_) <;> conv => whnf) | (refine zh.a ?_; conv => whnf) | fail
    ·rw [if_pos (by omega)]
     refine ⟨rfl, ?_⟩
     have e2 : (s ++ [(n : Int)]).length = s.length + 1 := by rw [List.length_append]; rfl
     have e4 : ints (s ++ [(n : Int)]) = ints s ++ [.int .i64 n] := by show List.map _ _ = _; rw [List.map_append]; rfl
     rw [e2, zD, e4]; rfl
    ·rw [if_neg (by omega)]
     exact ⟨rfl, rfl⟩
   ·split
    ·rw [List.length_append]; show s.length + 1 + cs.length <= _; omega
    ·omega
  ·have hll : (lvL b m n).length <= 122 := by
    have := qz ok.toBedOk (n := n) hm
    unfold lvL lvF
    rw [List.length_range']; omega
   exact ⟨by omega, fun c hc => by have := (jQ.1 hc).2; have := qz ok.toBedOk (n := n) hm; omega⟩
  ·have hb : (if k ∈ lvL b m n then xs ++ [(n : Int)] else xs) = lstF (befF b m k) (n + 1) := by
    rw [hs]; unfold befF
    by_cases hq : k ∈ lvL b m n
    ·rw [if_pos hq, if_pos (decide_eq_true hq)]
    ·rw [if_neg hq, if_neg (by simpa using hq)]
   rw [hfold, hb]
   conv => whnf
   repeat' ((with_reducible refine XInt.a ?_); conv => whnf)
   refine yk.go (n + 1) [.cells [natA n], .raw (.deferred (some [])), .dead] (by omega) (by omega) rfl ⟨rfl, rfl, rfl, rfl, rfl, rfl, rfl, trivial⟩ (Nat.le_refl _) ?_ ?_ (by simp) (fun i hi => by rw [List.mem_singleton] at hi; subst hi; exact ⟨show 2 <= 2 + 1 by omega, rfl⟩)
   ·intro z hz
    simp only [List.mem_cons, List.not_mem_nil, or_false] at hz
    rcases hz with rfl | rfl <;> first | rfl | exact lowI _
   ·intro z hz
    simp only [List.mem_cons, List.not_mem_nil, or_false] at hz
    rcases hz with rfl | rfl | rfl | rfl | rfl | rfl | rfl <;> first | rfl | exact dskL b | exact zY b
 ·obtain rfl : n = (b.room + 1).toNat := by omega
  repeat' ((with_reducible first | refine XBr.y fun h => ?_ | refine XBr.n fun h => ?_ | refine XBr.dec (fun h => ?_) fun h => ?_) <;> conv => whnf)
  subst hxs
  exact ⟨Froz.tup (.cons (Froz.grow rfl (zm _) (lowI _)) (.cons (.low rfl) .nil))⟩
end GA
end
section
namespace GA
open Go Go.RowKit Go.Proofs
theorem ivt {f : Int -> Int} (hf : ∀ x, f (x + 1) <= f x + 1) : ∀ (d : Nat) (a v : Int), f a <= v -> v <= f (a + d) -> ∃ x, a <= x /\ x <= a + d /\ f x = v
 | 0, a, v, h1, h2 => ⟨a, Int.le_refl _, by omega, by simp at h2; omega⟩
 | d + 1, a, v, h1, h2 => by
   by_cases h : f a = v
   ·exact ⟨a, Int.le_refl _, by omega, h⟩
   ·have h3 := hf a
    obtain ⟨x, q1, q2, q3⟩ := ivt hf d (a + 1) v (by omega) (by rw [show a + 1 + (d : Int) = a + ((d + 1 : Nat) : Int) by omega]; exact h2)
    exact ⟨x, by omega, by omega, q3⟩
theorem boxR {room g a pl ph tl th v : Int} (h1 : pl <= ph) (h2 : tl <= th) (lo : zJ room g a pl th <= v) (hi : v <= zJ room g a ph tl) : ∃ sp st, pl <= sp /\ sp <= ph /\ tl <= st /\ st <= th /\ zJ room g a sp st = v := by
 by_cases h : v <= zJ room g a ph th
 ·obtain ⟨x, q1, q2, q3⟩ := ivt (f := fun sp => zJ room g a sp th) (fun x => by unfold zJ; omega) (ph - pl).toNat pl v lo (by rw [show pl + ((ph - pl).toNat : Int) = ph by omega]; exact h)
  exact ⟨x, th, q1, by omega, h2, Int.le_refl _, q3⟩
 ·obtain ⟨x, q1, q2, q3⟩ := ivt (f := fun x => zJ room g a ph (th - x)) (fun x => by unfold zJ; omega) (th - tl).toNat 0 v (by rw [Int.sub_zero]; omega) (by rw [show th - (0 + ((th - tl).toNat : Int)) = tl by omega]; exact hi)
  exact ⟨ph, th - x, h1, Int.le_refl _, by omega, by omega, q3⟩
def InC (b : Bd) (m : Nat) (sp st : Int) : Prop := (moB b m).pl <= sp /\ sp <= (moB b m).ph /\ (moB b m).tl <= st /\ st <= (moB b m).th
def grC (b : Bd) (m : Nat) (n sp st : Int) : Int := zJ b.room (moB b m).g n sp st
theorem gy {b : Bd} (ok : BedOk b) {m : Nat} (hm : m < b.months.length) {n : Nat} {sp st : Int} (h : InC b m sp st) : lieR b m n <= grC b m n sp st /\ grC b m n sp st <= hiR b m n + (moB b m).r /\ 0 <= grC b m n sp st /\ grC b m n sp st <= b.room := by
 have hmo := ok.mo' hm
 obtain ⟨h1, h2, h3, h4⟩ := h
 have := ku (room := b.room) (g := (moB b m).g) (a := n) (sp := sp) (st := st) (by have := ok.r1; omega) (by omega)
 refine ⟨jS hmo.1 (Int.le_refl _) h1 h4, ?_, this.1, this.2⟩
 have : grC b m n sp st <= zJ b.room (moB b m).g n (moB b m).ph (moB b m).tl := jS hmo.1 (Int.le_refl _) h2 h3
 unfold hiR; omega
theorem mem_lv {b : Bd} (ok : BedOk b) {m : Nat} (hm : m < b.months.length) {n k : Nat} : k ∈ lvL b m n ↔ ∃ sp st, InC b m sp st /\ grC b m n sp st - (moB b m).r = k := by
 have hmo := ok.mo' hm
 have hlo := yp ok (j := m) (n := n) hm
 unfold lvL
 rw [jQ]
 constructor
 ·rintro ⟨h1, h2⟩
  unfold loR at h1
  unfold hiR at h2
  obtain ⟨sp, st, q1, q2, q3, q4, q5⟩ := boxR (room := b.room) (g := (moB b m).g) (a := n) (v := k + (moB b m).r) (show (moB b m).pl <= (moB b m).ph by omega) (show (moB b m).tl <= (moB b m).th by omega) (by show lieR b m n <= _; omega) (by omega)
  exact ⟨sp, st, ⟨q1, q2, q3, q4⟩, by unfold grC; omega⟩
 ·rintro ⟨sp, st, h1, h2⟩
  have := gy ok hm (n := n) h1
  unfold loR
  constructor <;> omega
theorem inC_worst {b : Bd} (ok : BedOk b) {m : Nat} (hm : m < b.months.length) : InC b m (moB b m).pl (moB b m).th := by
 have hmo := ok.mo' hm
 exact ⟨Int.le_refl _, by omega, by omega, Int.le_refl _⟩
theorem jN {b : Bd} {p : Nat -> Bool} {m n : Nat} : agB b p m n = true ↔ ∀ i, i < b.surveys.length -> (suB b i).m = m -> p i = true -> (suB b i).lo <= n /\ (n : Int) <= (suB b i).hi := by
 unfold agB
 rw [List.all_eq_true]
 constructor
 ·intro h i hi hm hp
  have := h i (fU.2 ⟨i, hi, hm, rfl⟩)
  rw [Int.toNat_natCast, hp] at this
  simpa [zx] using this
 ·intro h x hx
  obtain ⟨i, hi, hm, rfl⟩ := fU.1 hx
  rw [Int.toNat_natCast]
  cases hp : p i with
  | false => rfl
  | true => have := h i hi hm hp; simp [zx]; exact this
end GA
end
