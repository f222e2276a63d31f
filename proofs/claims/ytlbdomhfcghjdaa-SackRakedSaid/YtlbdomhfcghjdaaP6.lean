/- Part 6 of a proof: B5, S29, S31, S57, S58, S59, S40, B6. -/
import Derived.Test.YtlbdomhfcghjdaaP5
section
namespace GA
open Go Go.RowKit Go.Proofs
set_option pp.deepTerms true
set_option maxRecDepth 8000
set_option linter.unusedVariables false
set_option linter.unusedSimpArgs false

theorem lies_c (b : Bd) (m : Mo) (a sp st : Int) (h1 : 0 ≤ a) (h2 : a ≤ 1000) (h3 : 0 ≤ m.g) (h4 : m.g ≤ 100) (h5 : 0 ≤ b.room) (h6 : b.room ≤ 1000) (h7 : 0 ≤ sp) (h8 : sp ≤ 1000) (h9 : 0 ≤ st) (h10 : st ≤ 1000) :
    Comp Try.prog 119 [bedA b, moA m, .int .i64 a, chA sp st] (.int .i64 (grossR b.room m.g a sp st)) := by
  have q1 : 0 ≤ a * m.g := Int.mul_nonneg h1 h3
  have q2 : a * m.g ≤ 1000 * 100 := Int.mul_le_mul h2 h4 h3 (by omega)
  have q3 : (a * m.g).tdiv 100 = (a * m.g) / 100 := Int.tdiv_eq_ediv_of_nonneg q1
  refine Comp.body (T := tab) (res := [.tmp 8]) tab_ok [] Try.func119 rfl (by kernel_rfl) Try.ntmps119 rfl (by simp only [List.length_cons, List.length_nil]; decide) (by simp only [lowL, bedL, moL, AV.low]; rfl) ?_; conv => whnf
  repeat' first | ((with_reducible refine XInt.i64 (by omega) (by omega) ?_); conv => whnf) | ((with_reducible refine XHold.mk ?_ ?_); (first | omega | rfl | decide | exact ⟨rfl, by decide, rfl⟩ | exact wideI _ | exact widePr _ | exact wideSk _ | (unfold Room; constructor <;> ((try simp) <;> omega)) | exact ⟨rfl, by simp only [List.length_map], by unfold Room; constructor <;> ((try simp) <;> omega)⟩ | exact ⟨by omega, by omega, by unfold Room; constructor <;> ((try simp) <;> omega)⟩); conv => whnf) | fail
  all_goals exact XOut.int (by rw [q3]; rfl)
structure MdB where
  ms : List Mo
  now : Int
  re : List Int
  ch : List (Int × Int)
  u : Hp
def mdMo (u : Hp) : Mo := ⟨modV u 60, 0, modV (hpS u) 6, modV (hpS u) 6 + modV (hpS (hpS (hpS u))) 8, modV (hpS (hpS u)) 4, modV (hpS (hpS u)) 4 + modV (hpS (hpS (hpS (hpS u)))) 8⟩
def mdU (u : Hp) : Hp := hpS (hpS (hpS (hpS (hpS u))))
def mdSp (u : Hp) : Int := (mdMo u).pl + modV (mdU u) ((mdMo u).ph - (mdMo u).pl)
def mdSt (u : Hp) : Int := (mdMo u).tl + modV (hpS (mdU u)) ((mdMo u).th - (mdMo u).tl)
def mdN (room : Int) (s : MdB) : Int := grossR room (mdMo s.u).g s.now (mdSp s.u) (mdSt s.u)
def mdR (room : Int) (s : MdB) : Int := modV (hpS (hpS (mdU s.u))) (min (mdN room s) 5)
def mdBS (room : Int) (s : MdB) : MdB := ⟨s.ms ++ [{ mdMo s.u with r := mdR room s }], mdN room s - mdR room s, s.re ++ [mdN room s - mdR room s], s.ch ++ [(mdSp s.u, mdSt s.u)], hpS (hpS (hpS (mdU s.u)))⟩
structure MdOk (room : Int) (s : MdB) (k : Nat) : Prop where
  u : s.u.Ok
  n0 : 0 ≤ s.now
  n1 : s.now ≤ room
  ml : s.ms.length = k
  rl : s.re.length = k + 1
  cl : s.ch.length = k
  mo : ∀ m ∈ s.ms, 0 ≤ m.g ∧ m.g ≤ 60 ∧ 0 ≤ m.r ∧ m.r ≤ 5 ∧ m.r ≤ room ∧ 0 ≤ m.pl ∧ m.pl ≤ m.ph ∧ m.ph ≤ 14 ∧ 0 ≤ m.tl ∧ m.tl ≤ m.th ∧ m.th ≤ 12
theorem mdMo_b (u : Hp) : 0 ≤ (mdMo u).g ∧ (mdMo u).g ≤ 60 ∧ 0 ≤ (mdMo u).pl ∧ (mdMo u).pl ≤ 6 ∧ (mdMo u).pl ≤ (mdMo u).ph ∧ (mdMo u).ph ≤ 14 ∧ 0 ≤ (mdMo u).tl ∧ (mdMo u).tl ≤ 4 ∧ (mdMo u).tl ≤ (mdMo u).th ∧ (mdMo u).th ≤ 12 := by
  have h1 := modV_bound u 60
  have h2 := modV_bound (hpS u) 6
  have h3 := modV_bound (hpS (hpS u)) 4
  have h4 := modV_bound (hpS (hpS (hpS u))) 8
  have h5 := modV_bound (hpS (hpS (hpS (hpS u)))) 8
  simp only [mdMo]; omega
theorem mdC_b (u : Hp) : (mdMo u).pl ≤ mdSp u ∧ mdSp u ≤ (mdMo u).ph ∧ (mdMo u).tl ≤ mdSt u ∧ mdSt u ≤ (mdMo u).th := by
  have h0 := mdMo_b u
  have h1 := modV_bound (mdU u) ((mdMo u).ph - (mdMo u).pl)
  have h2 := modV_bound (hpS (mdU u)) ((mdMo u).th - (mdMo u).tl)
  unfold mdSp mdSt; omega
theorem mdU_ok {u : Hp} (o : u.Ok) : (mdU u).Ok := hpS_ok (hpS_ok (hpS_ok (hpS_ok (hpS_ok o))))
theorem mdN_b {room : Int} {s : MdB} {k : Nat} (o : MdOk room s k) : 0 ≤ mdN room s ∧ mdN room s ≤ room := by
  have := mdC_b s.u; have := mdMo_b s.u; have := o.n0; have := o.n1
  exact grossR_le (by omega) (by omega)
theorem mdR_b {room : Int} {s : MdB} {k : Nat} (o : MdOk room s k) : 0 ≤ mdR room s ∧ mdR room s ≤ mdN room s ∧ mdR room s ≤ 5 := by
  have h := mdN_b o
  have := modV_bound (hpS (hpS (mdU s.u))) (min (mdN room s) 5)
  unfold mdR; omega
theorem MdOk.step {room : Int} {s : MdB} {k : Nat} (o : MdOk room s k) : MdOk room (mdBS room s) (k + 1) := by
  have h1 := mdN_b o
  have h2 := mdR_b o
  have h3 := mdMo_b s.u
  have hu : (hpS (hpS (hpS (mdU s.u)))).Ok := hpS_ok (hpS_ok (hpS_ok (mdU_ok o.u)))
  unfold mdBS
  refine MdOk.mk ?_ ?_ ?_ ?_ ?_ ?_ ?_
  all_goals dsimp only
  · exact hu
  · exact Int.sub_nonneg_of_le h2.2.1
  · exact Int.le_trans (Int.sub_le_self _ h2.1) h1.2
  · rw [List.length_append, o.ml]; rfl
  · rw [List.length_append, o.rl]; rfl
  · rw [List.length_append, o.cl]; rfl
  intro m hm
  rw [List.mem_append, List.mem_singleton] at hm
  rcases hm with hm | rfl
  · exact o.mo m hm
  · obtain ⟨a1, a2, a3, a4, a5, a6, a7, a8, a9, a10⟩ := h3
    exact ⟨a1, a2, h2.1, h2.2.2, Int.le_trans h2.2.1 h1.2, a3, a5, a6, a7, a9, a10⟩
def mdBK (room : Int) (s : MdB) : Nat → MdB
  | 0 => s
  | k + 1 => mdBS room (mdBK room s k)
theorem mdBK_succ (room : Int) (s : MdB) (k : Nat) : mdBK room s (k + 1) = mdBS room (mdBK room s k) := by rw [mdBK]
theorem mdBK_ok {room : Int} {s : MdB} (o : MdOk room s 0) : ∀ k, MdOk room (mdBK room s k) k
  | 0 => o
  | k + 1 => (mdBK_ok o k).step
def mdRoom (u : Hp) (room : Int) : Int := 2 + modV u (room - 2)
def mdUns (u : Hp) : Int := modV (hpS u) 4
def mdFst (u : Hp) (room : Int) : Int := modV (hpS (hpS u)) (mdRoom u room)
def mdNow (u : Hp) (room : Int) : Int := min (mdRoom u room) (max 0 (mdFst u room + ((0 - mdUns u) + modV (hpS (hpS (hpS u))) (mdUns u - (0 - mdUns u)))))
def mdH (u : Hp) : Hp := hpS (hpS (hpS (hpS u)))
def mdMany (u : Hp) (months : Int) : Int := 1 + modV (mdH u) (months - 1)
def mdS0 (u : Hp) (room : Int) : MdB := ⟨[], mdNow u room, [mdNow u room], [], hpS (mdH u)⟩
theorem mdS0_ok {u : Hp} (o : u.Ok) {room : Int} (h : 2 ≤ room) : MdOk (mdRoom u room) (mdS0 u room) 0 := by
  have h1 := modV_bound u (room - 2)
  refine ⟨hpS_ok (hpS_ok (hpS_ok (hpS_ok (hpS_ok o)))), ?_, ?_, rfl, rfl, rfl, by simp [mdS0]⟩
  · simp only [mdS0, mdNow, mdRoom]; omega
  · simp only [mdS0, mdNow]; omega
def mdE (u : Hp) (room months : Int) : MdB := mdBK (mdRoom u room) (mdS0 u room) (mdMany u months).toNat
def madeB (u : Hp) (room months : Int) : Bd := ⟨mdRoom u room, mdFst u room, mdUns u, (mdE u room months).ms.isEmpty, (mdE u room months).ms, true, []⟩
theorem madeB_ok {u : Hp} (o : u.Ok) {room months : Int} (h1 : 2 ≤ room) (h2 : room ≤ 100) (h3 : 1 ≤ months) (h4 : months ≤ 10) : BedOk (madeB u room months) := by
  have e := mdBK_ok (mdS0_ok o h1) (mdMany u months).toNat
  have g1 := modV_bound u (room - 2)
  have g2 := modV_bound (hpS u) 4
  have g3 := modV_bound (hpS (hpS u)) (mdRoom u room)
  have g4 := modV_bound (mdH u) (months - 1)
  have hl := e.ml
  refine ⟨?_, ?_, ?_, ?_, ?_, ?_, ?_, ?_, fun m hm => ?_⟩
  · simp only [madeB, mdRoom]; omega
  · simp only [madeB, mdRoom]; omega
  · simp only [madeB, mdE]; rw [hl]; simp only [mdMany]; omega
  · simp only [madeB, mdE]; rw [hl]; simp only [mdMany]; omega
  · simp only [madeB, mdFst]; omega
  · simp only [madeB, mdFst, mdRoom] at g3 ⊢; omega
  · simp only [madeB, mdUns]; omega
  · simp only [madeB, mdUns]; omega
  · have := e.mo m hm
    simp only [madeB]; omega
theorem bedMade_end {H : List Blk} {r' : AV} (b : Bd) (re : List Int) (ch : List (Int × Int)) (nl : Bool) (x : Hp) {i1 i2 i3 : Nat} {n : Nat} (hn : n = 1) (h1 : 1 ≤ i1) (h2 : 1 ≤ i2) (h3 : 1 ≤ i3) (hH : lget H 0 = some (hpC x)) (g1 : lget H i1 = some (.grow 174 b.nlm (b.months.map moA))) (g2 : lget H i2 = some (.grow 3 nl (ints re))) (g3 : lget H i3 = some (.grow 176 ch.isEmpty (ch.map prA)))
    (hs : b.surveys = []) (hs2 : b.nls = true) (hr : r' = .tup [.agg [.int .i64 b.room, .int .i64 b.first, .int .i64 b.unsure, .gr i1 b.months.length, .sl true []], .gr i2 re.length, .gr i3 ch.length]) : FrozN Try.prog n H r' (.tup [bedA b, .sl nl (ints re), .sl ch.isEmpty (ch.map prA)]) := by
  subst hn hr
  have e : bedA b = .agg [.int .i64 b.room, .int .i64 b.first, .int .i64 b.unsure, .sl b.nlm (b.months.map moA), .sl true []] := by unfold bedA bedC; rw [hs, hs2]; rfl
  rw [e]
  refine FrozN.tup (.cons (FrozN.agg ?_ (.cons (.low rfl) (.cons (.low rfl) (.cons (.low rfl) (.cons (.grow h1 g1 (List.length_map _) (lowMo _)) (.cons (.low rfl) .nil)))))) (.cons (.grow h2 g2 (List.length_map _) (lowI _)) (.cons (.grow h3 g3 (List.length_map _) (lowPr _)) .nil)))
  · intro y hy
    simp only [List.mem_cons, List.not_mem_nil, or_false] at hy
    rcases hy with rfl | rfl | rfl | rfl | rfl <;> rfl
theorem XCall.heap {P : Program} {f : FuncId} {rs : List AV} {k : AV → List Blk → Prop} {H : List Blk} (H' : List Blk) (h : H' = H) (x : XCall P f rs H' k) : XCall P f rs H k := h ▸ x
theorem Walk.heap {P : Program} {N : Nat} {r : Option Nat} {c : Code} {Q : Post} {D : List Nat} {σ : St} {H : List Blk} (H' : List Blk) (h : H' = H) (x : Walk P N r c Q D σ H') : Walk P N r c Q D σ H := h ▸ x
set_option maxHeartbeats 4000000 in
theorem bedMade_c (u : Hp) (room months : Int) (o : u.Ok) (h1 : 2 ≤ room) (h2 : room ≤ 100) (h3 : 1 ≤ months) (h4 : months ≤ 10) :
    HpOk 66 [.int .i64 room, .int .i64 months] u (.tup [bedA (madeB u room months), .sl false (ints (mdE u room months).re), .sl (mdE u room months).ch.isEmpty ((mdE u room months).ch.map prA)]) (mdE u room months).u := by
  have g1 := modV_bound u (room - 2)
  have g2 := modV_bound (hpS u) 4
  have g4 := modV_bound (mdH u) (months - 1)
  have ok := mdBK_ok (mdS0_ok o h1)
  have hR : mdRoom u room = 2 + modV u (room - 2) := rfl
  refine ⟨rfl, ?_⟩
  refine ACall.bodyN (T := tab) (res := [.cell 6 107, .tmp 7, .tmp 8]) tab_ok [41] Try.func66 rfl (by kernel_rfl) Try.ntmps66 rfl (by simp only [List.length_cons, List.length_nil]; decide) ⟨rfl, rfl⟩ ?_; conv => whnf
  repeat' first | ((first | (refine XCall.hp (j := 0) (from_c u 2 room o (by omega) (by omega) (by omega) (by omega)) rfl rfl ?_) | (refine XCall.hp (j := 0) (upto_c (hpS u) 4 (hpS_ok o) (by omega) (by omega)) rfl rfl ?_) | (refine XCall.hp (j := 0) (upto_c (hpS (hpS u)) _ (hpS_ok (hpS_ok o)) (by omega) (by omega)) rfl rfl ?_)); conv => whnf) | fail
  have g3 := modV_bound (hpS (hpS u)) (mdRoom u room)
  have g5 := modV_bound (hpS (hpS (hpS u))) (mdUns u - (0 - mdUns u))
  have hU : mdUns u = modV (hpS u) 4 := rfl
  have hF : mdFst u room = modV (hpS (hpS u)) (mdRoom u room) := rfl
  have hfr := from_c (hpS (hpS (hpS u))) ((0 - mdUns u)) (mdUns u) (hpS_ok (hpS_ok (hpS_ok o))) (by omega) (by omega) (by omega) (by omega)
  refine Walk.know [(0, .ptr 0 0), (2, .int .i64 months), (6, .ptr 1 0), (7, .sl true []), (8, .sl true []), (9, .ptr 2 0)] ⟨rfl, rfl, rfl, rfl, rfl, rfl, trivial⟩ ?_
  refine Walk.heap [hpC (hpS (hpS (hpS u))), .cells [.int .i64 0, .int .i64 0, .int .i64 0, .sl true [], .sl true []], .cells [.int .i64 (mdRoom u room), .int .i64 (mdFst u room), .int .i64 (mdUns u), .sl true [], .sl true []]] rfl ?_
  rw [← hU] at g2
  rw [← hF] at g3
  apply Walk.drawX tab_ok mixed_ok [] [10] (hsV _ [id, fun H => H.set 0 (hpC (mdH u))]) [_, _, _, _, _, _, _, _, _, _, _, _, _, _, _] (by kernel_rfl) rfl
  · skip
    repeat' first | ((with_reducible refine XInt.i64 (by omega) (by omega) ?_); conv => whnf) | (with_reducible apply XAnd.mk) | ((first | (with_reducible apply Chk.go) | (with_reducible apply ChkA.go)); conv => whnf) | (exact XSame.mk rfl rfl) | (with_reducible exact trivial) | ((refine XCall.hp (j := 0) hfr rfl rfl ?_); conv => whnf) | fail
  · skip
    repeat' first | (with_reducible apply XAnd.mk) | ((first | (with_reducible apply Chk.go) | (with_reducible apply ChkF.go) | (with_reducible apply ChkB.go)); conv => whnf) | (exact XSame.mk rfl rfl) | (with_reducible exact trivial) | fail
  conv => whnf
  have hm1 : mdMany u months = 1 + modV (mdH u) (months - 1) := rfl
  have hMo : (mdH u).Ok := hpS_ok (hpS_ok (hpS_ok (hpS_ok o)))
  repeat' first | ((with_reducible refine XHold.mk ?_ ?_); (first | omega | rfl | decide | exact ⟨rfl, by decide, rfl⟩ | exact wideI _ | exact widePr _ | exact wideSk _ | (unfold Room; constructor <;> ((try simp) <;> omega)) | exact ⟨rfl, by simp only [List.length_map], by unfold Room; constructor <;> ((try simp) <;> omega)⟩ | exact ⟨by omega, by omega, by unfold Room; constructor <;> ((try simp) <;> omega)⟩); conv => whnf) | ((refine XCall.hp (j := 0) (from_c (mdH u) 1 months hMo (by omega) (by omega) (by omega) (by omega)) rfl rfl ?_); conv => whnf) | fail
  refine Walk.nilcell 2 3 174 rfl rfl ?_
  refine Walk.nilgr 12 176 rfl ?_
  refine Walk.loopG tab_ok [] (fun k : Nat => (k : Int) ≤ mdMany u months) (fun k => [(0, .ptr 0 0), (6, .ptr 1 0), (7, .sl true []), (8, .sl true []), (9, .ptr 2 0), (44, .int .i64 (mdMany u months)), (10, .int .i64 (mdBK (mdRoom u room) (mdS0 u room) k).now), (11, .gr 3 (mdBK (mdRoom u room) (mdS0 u room) k).re.length), (12, .gr 5 (mdBK (mdRoom u room) (mdS0 u room) k).ch.length), (45, natA k)])
    (fun k => [hpC (mdBK (mdRoom u room) (mdS0 u room) k).u, .cells [.int .i64 0, .int .i64 0, .int .i64 0, .sl true [], .sl true []], .cells [.int .i64 (mdRoom u room), .int .i64 (mdFst u room), .int .i64 (mdUns u), .gr 4 (mdBK (mdRoom u room) (mdS0 u room) k).ms.length, .sl true []],
      .grow 3 false (ints (mdBK (mdRoom u room) (mdS0 u room) k).re), .grow 174 (mdBK (mdRoom u room) (mdS0 u room) k).ms.isEmpty ((mdBK (mdRoom u room) (mdS0 u room) k).ms.map moA), .grow 176 (mdBK (mdRoom u room) (mdS0 u room) k).ch.isEmpty ((mdBK (mdRoom u room) (mdS0 u room) k).ch.map prA)])
    (fun k => (mdMany u months).toNat - k) 0 (show ((0 : Nat) : Int) ≤ mdMany u months by omega) rfl ⟨rfl, rfl, rfl, rfl, rfl, rfl, rfl, rfl, rfl, rfl, trivial⟩ ?_ ?_ ?_
  · intro k _
    refine ⟨fun x hx => ?_, fun p hp => ?_⟩
    · simp only [List.mem_cons, List.not_mem_nil, or_false] at hx
      rcases hx with rfl | rfl | rfl | rfl | rfl | rfl
      · exact hpC_low _
      · rfl
      · rfl
      · exact lowI _
      · exact lowMo _
      · exact lowPr _
    · simp only [List.mem_cons, List.not_mem_nil, or_false] at hp
      rcases hp with rfl | rfl | rfl | rfl | rfl | rfl | rfl | rfl | rfl | rfl <;> rfl
  · intro k _; exact (show (6 : Nat) ≤ 6 from Nat.le_refl 6)
  intro k hk
  have hs := ok k
  have hnx : mdBK (mdRoom u room) (mdS0 u room) (k + 1) = mdBS (mdRoom u room) (mdBK (mdRoom u room) (mdS0 u room) k) := mdBK_succ _ _ _
  have hfin : (k : Int) = mdMany u months → mdE u room months = mdBK (mdRoom u room) (mdS0 u room) k := fun h => by unfold mdE; rw [← h, Int.toNat_natCast]
  generalize mdBK (mdRoom u room) (mdS0 u room) k = s at hs hnx hfin
  have ht := mdN_b hs
  have ht2 := mdR_b hs
  obtain ⟨ms, now, re, ch, v⟩ := s
  have vo := hs.u
  have n0 := hs.n0
  have n1 := hs.n1
  have l1 := hs.ml
  have l2 := hs.rl
  have l3 := hs.cl
  clear hs ok
  dsimp only at vo n0 n1 l1 l2 l3
  simp only [mdBS, mdMo, mdSp, mdSt, mdN, mdR, mdU] at hnx ht ht2
  generalize hRR : mdRoom u room = R at *
  have o1 := hpS_ok vo
  have o2 := hpS_ok o1
  have o3 := hpS_ok o2
  have o4 := hpS_ok o3
  have o5 := hpS_ok o4
  have o6 := hpS_ok o5
  have o7 := hpS_ok o6
  have b1 := modV_bound v 60
  have b2 := modV_bound (hpS v) 6
  have b3 := modV_bound (hpS (hpS v)) 4
  have b4 := modV_bound (hpS (hpS (hpS v))) 8
  have b5 := modV_bound (hpS (hpS (hpS (hpS v)))) 8
  have c1 := upto_c v 60 vo (by omega) (by omega)
  have c2 := upto_c (hpS v) 6 o1 (by omega) (by omega)
  have c3 := upto_c (hpS (hpS v)) 4 o2 (by omega) (by omega)
  have c4 := upto_c (hpS (hpS (hpS v))) 8 o3 (by omega) (by omega)
  have c5 := upto_c (hpS (hpS (hpS (hpS v)))) 8 o4 (by omega) (by omega)
  generalize modV v 60 = g at *
  generalize modV (hpS v) 6 = pl at *
  generalize modV (hpS (hpS v)) 4 = tl at *
  generalize modV (hpS (hpS (hpS v))) 8 = d1 at *
  generalize modV (hpS (hpS (hpS (hpS v)))) 8 = d2 at *
  have b6 := modV_bound (hpS (hpS (hpS (hpS (hpS v))))) (pl + d1 - pl)
  have b7 := modV_bound (hpS (hpS (hpS (hpS (hpS (hpS v)))))) (tl + d2 - tl)
  have c6 := from_c (hpS (hpS (hpS (hpS (hpS v))))) pl (pl + d1) o5 (by omega) (by omega) (by omega) (by omega)
  have c7 := from_c (hpS (hpS (hpS (hpS (hpS (hpS v)))))) tl (tl + d2) o6 (by omega) (by omega) (by omega) (by omega)
  generalize modV (hpS (hpS (hpS (hpS (hpS v))))) (pl + d1 - pl) = e1 at *
  generalize modV (hpS (hpS (hpS (hpS (hpS (hpS v)))))) (tl + d2 - tl) = e2 at *
  have c9 := lies_c ⟨R, mdFst u room, mdUns u, ms.isEmpty, ms, true, []⟩ ⟨g, 0, pl, pl + d1, tl, tl + d2⟩ now (pl + e1) (tl + e2) n0 (by omega) (by dsimp only; omega) (by dsimp only; omega) (by dsimp only; omega) (by dsimp only; omega) (by omega) (by omega) (by omega) (by omega)
  dsimp only at c9
  generalize grossR R g now (pl + e1) (tl + e2) = nn at *
  have c8 := upto_c (hpS (hpS (hpS (hpS (hpS (hpS (hpS v))))))) (min nn 5) o7 (by omega) (by omega)
  generalize modV (hpS (hpS (hpS (hpS (hpS (hpS (hpS v))))))) (min nn 5) = rk at *
  generalize hpS (hpS (hpS (hpS (hpS (hpS (hpS (hpS v))))))) = v8 at *
  generalize hpS (hpS (hpS (hpS (hpS (hpS (hpS v)))))) = v7 at *
  generalize hpS (hpS (hpS (hpS (hpS (hpS v))))) = v6 at *
  generalize hpS (hpS (hpS (hpS (hpS v)))) = v5 at *
  generalize hpS (hpS (hpS (hpS v))) = v4 at *
  generalize hpS (hpS (hpS v)) = v3 at *
  generalize hpS (hpS v) = v2 at *
  generalize hpS v = v1 at *
  conv => whnf
  repeat' first | ((with_reducible apply XBr.dec) <;> (intro h; first | (exfalso; omega) | ((try simp only [List.length_map] at h); first | (exfalso; omega) | (conv => whnf)))) | ((first | (refine XCall.hp (j := 0) c1 rfl rfl ?_) | (refine XCall.hp (j := 0) c2 rfl rfl ?_) | (refine XCall.hp (j := 0) c3 rfl rfl ?_)); conv => whnf) | fail
  · apply Walk.drawX tab_ok mixed_ok [] [4, 10, 14, 17] (hsV _ [id, fun H => H.set 0 (hpC v4), fun H => H.set 0 (hpC v5), fun H => (H.set 0 (hpC v5)).set 6 (.cells [.int .i64 g, .int .i64 0, .int .i64 pl, .int .i64 (pl + d1), .int .i64 tl, .int .i64 0]), fun H => (H.set 0 (hpC v5)).set 6 (.cells [.int .i64 g, .int .i64 0, .int .i64 pl, .int .i64 (pl + d1), .int .i64 tl, .int .i64 (tl + d2)])]) [_, _, _, _, _, _, _, _, _, _, _, _, _, _, _, _, _, _] (by kernel_rfl) rfl
    · skip
      repeat' first | ((with_reducible refine XInt.i64 (by omega) (by omega) ?_); conv => whnf) | (with_reducible apply XAnd.mk) | ((first | (with_reducible apply Chk.go) | (with_reducible apply ChkA.go)); conv => whnf) | (exact XSame.mk rfl rfl) | (with_reducible exact trivial) | ((first | (refine XCall.hp (j := 0) c4 rfl rfl ?_) | (refine XCall.hp (j := 0) c5 rfl rfl ?_)); conv => whnf) | fail
    · skip
      repeat' first | ((with_reducible refine XInt.i64 (by omega) (by omega) ?_); conv => whnf) | (with_reducible apply XAnd.mk) | ((first | (with_reducible apply Chk.go) | (with_reducible apply ChkF.go) | (with_reducible apply ChkB.go)); conv => whnf) | (exact XSame.mk rfl rfl) | (with_reducible exact trivial) | fail
    conv => whnf
    apply Walk.drawX tab_ok mixed_ok [] [7, 15, 17, 18] (fun fl => match fl with
      | [a, b, x, y] => [hpC (bif b then v7 else bif a then v6 else v5), .cells [.int .i64 0, .int .i64 0, .int .i64 0, .sl true [], .sl true []], .cells [.int .i64 R, .int .i64 (mdFst u room), .int .i64 (mdUns u), .gr 4 ms.length, .sl true []],
        .grow 3 false (ints re), .grow 174 ms.isEmpty (ms.map moA), .grow 176 ch.isEmpty (ch.map prA), .cells [.int .i64 g, .int .i64 0, .int .i64 pl, .int .i64 (pl + d1), .int .i64 tl, .int .i64 (tl + d2)]] ++ (bif x then [.cells (bif y then [.int .i64 (pl + e1), .int .i64 (tl + e2)] else [.int .i64 0, .int .i64 0])] else [])
      | _ => []) [_, _, _, _, _, _, _, _, _, _, _, _, _, _, _, _, _, _, _] (by kernel_rfl) rfl
    · skip
      repeat' first | (with_reducible apply XAnd.mk) | ((first | (with_reducible apply Chk.go) | (with_reducible apply ChkA.go)); conv => whnf) | (exact XSame.mk rfl rfl) | (with_reducible exact trivial) | ((first | (refine XCall.hp (j := 0) c6 rfl rfl ?_) | (refine XCall.hp (j := 0) c7 rfl rfl ?_)); conv => whnf) | fail
    · skip
      repeat' first | (with_reducible apply XAnd.mk) | ((first | (with_reducible apply Chk.go) | (with_reducible apply ChkF.go) | (with_reducible apply ChkB.go)); conv => whnf) | (exact XSame.mk rfl rfl) | (with_reducible exact trivial) | ((first | (refine XCall.hp (j := 0) c6 rfl rfl ?_) | (refine XCall.hp (j := 0) c7 rfl rfl ?_)); conv => whnf) | fail
    conv => whnf
    refine XCall.heap [hpC v7, .cells [.int .i64 0, .int .i64 0, .int .i64 0, .sl true [], .sl true []], .cells [.int .i64 R, .int .i64 (mdFst u room), .int .i64 (mdUns u), .gr 4 ms.length, .sl true []],
        .grow 3 false (ints re), .grow 174 ms.isEmpty (ms.map moA), .grow 176 ch.isEmpty (ch.map prA), .cells [.int .i64 g, .int .i64 0, .int .i64 pl, .int .i64 (pl + d1), .int .i64 tl, .int .i64 (tl + d2)], .cells [.int .i64 (pl + e1), .int .i64 (tl + e2)]] rfl ?_
    refine XCall.lend c9 (.cons (Froz.agg (fun x hx => by simp only [bedC, List.mem_cons, List.not_mem_nil, or_false] at hx; rcases hx with rfl | rfl | rfl | rfl | rfl <;> rfl) (.cons (Froz.low rfl) (.cons (Froz.low rfl) (.cons (Froz.low rfl) (.cons (Froz.grow (i := 4) rfl (List.length_map _) (lowMo _)) (.cons (Froz.low rfl) .nil)))))) (.cons (Froz.low rfl) (.cons (Froz.low rfl) (.cons (Froz.low rfl) .nil)))) rfl ?_
    conv => whnf
    repeat' first | ((first | (with_reducible refine XInt.i64 (by omega) (by omega) ?_) | (refine XCall.hp (j := 0) c8 rfl rfl ?_)); conv => whnf) | fail
    apply Walk.drawX tab_ok mixed_ok [] [4, 8, 12, 14] (hsV _ [id, fun H => H.set 4 (.grow 174 (ms.isEmpty && false) (ms.map moA ++ [moA ⟨g, rk, pl, pl + d1, tl, tl + d2⟩])),
      fun H => (H.set 4 (.grow 174 (ms.isEmpty && false) (ms.map moA ++ [moA ⟨g, rk, pl, pl + d1, tl, tl + d2⟩]))).set 3 (.grow 3 false (ints re ++ [.int .i64 (nn - rk)])),
      fun H => ((H.set 4 (.grow 174 (ms.isEmpty && false) (ms.map moA ++ [moA ⟨g, rk, pl, pl + d1, tl, tl + d2⟩]))).set 3 (.grow 3 false (ints re ++ [.int .i64 (nn - rk)]))).set 5 (.grow 176 (ch.isEmpty && false) (ch.map prA ++ [prA (pl + e1, tl + e2)])),
      fun H => (((H.set 4 (.grow 174 (ms.isEmpty && false) (ms.map moA ++ [moA ⟨g, rk, pl, pl + d1, tl, tl + d2⟩]))).set 3 (.grow 3 false (ints re ++ [.int .i64 (nn - rk)]))).set 5 (.grow 176 (ch.isEmpty && false) (ch.map prA ++ [prA (pl + e1, tl + e2)]))).set 2 (.cells [.int .i64 R, .int .i64 (mdFst u room), .int .i64 (mdUns u), .gr 4 (ms.length + 1), .sl true []])]) [_, _, _, _, _, _, _, _, _, _, _, _, _, _, _, _, _] (by kernel_rfl) rfl
    · skip
      repeat' first | ((with_reducible refine XHold.mk ?_ ?_); (first | omega | rfl | decide | exact ⟨rfl, by decide, rfl⟩ | exact wideI _ | exact widePr _ | exact wideSk _ | (unfold Room; constructor <;> ((try simp) <;> omega)) | exact ⟨rfl, by simp only [List.length_map], by unfold Room; constructor <;> ((try simp) <;> omega)⟩ | exact ⟨by omega, by omega, by unfold Room; constructor <;> ((try simp) <;> omega)⟩); conv => whnf) | (with_reducible apply XAnd.mk) | ((first | (with_reducible apply Chk.go) | (with_reducible apply ChkA.go)); conv => whnf) | (exact XSame.mk rfl rfl) | (with_reducible exact trivial) | fail
    · skip
      repeat' first | ((with_reducible refine XHold.mk ?_ ?_); (first | omega | rfl | decide | exact ⟨rfl, by decide, rfl⟩ | exact wideI _ | exact widePr _ | exact wideSk _ | (unfold Room; constructor <;> ((try simp) <;> omega)) | exact ⟨rfl, by simp only [List.length_map], by unfold Room; constructor <;> ((try simp) <;> omega)⟩ | exact ⟨by omega, by omega, by unfold Room; constructor <;> ((try simp) <;> omega)⟩); conv => whnf) | (with_reducible apply XAnd.mk) | ((first | (with_reducible apply Chk.go) | (with_reducible apply ChkF.go) | (with_reducible apply ChkB.go)); conv => whnf) | (exact XSame.mk rfl rfl) | (with_reducible exact trivial) | fail
    conv => whnf
    repeat' first | ((with_reducible refine XInt.i64 (by omega) (by omega) ?_); conv => whnf) | fail
    refine XAgainG.go (k + 1) [.cells [.int .i64 g, .int .i64 rk, .int .i64 pl, .int .i64 (pl + d1), .int .i64 tl, .int .i64 (tl + d2)], .cells [.int .i64 (pl + e1), .int .i64 (tl + e2)]] (show ((k + 1 : Nat) : Int) ≤ mdMany u months by omega) (show (mdMany u months).toNat - (k + 1) < (mdMany u months).toNat - k by omega) ?_ ⟨rfl, rfl, rfl, rfl, rfl, rfl, ?_, ?_, ?_, rfl, trivial⟩
    · rw [hnx]
      show [hpC v8, .cells [.int .i64 0, .int .i64 0, .int .i64 0, .sl true [], .sl true []], .cells [.int .i64 R, .int .i64 (mdFst u room), .int .i64 (mdUns u), .gr 4 (ms ++ [(⟨g, rk, pl, pl + d1, tl, tl + d2⟩ : Mo)]).length, .sl true []], .grow 3 false (List.map (AV.int .i64) (re ++ [nn - rk])), .grow 174 (ms ++ [(⟨g, rk, pl, pl + d1, tl, tl + d2⟩ : Mo)]).isEmpty (List.map moA (ms ++ [⟨g, rk, pl, pl + d1, tl, tl + d2⟩])), .grow 176 (ch ++ [(pl + e1, tl + e2)]).isEmpty (List.map prA (ch ++ [(pl + e1, tl + e2)]))] ++ _ = _
      rw [List.map_append, List.map_append, List.map_append, isEmpty_app, isEmpty_app, List.length_append]
      rfl
    · show some (AV.int .i64 (nn - rk)) = some (AV.int .i64 (mdBK R (mdS0 u room) (k + 1)).now)
      rw [hnx]
    · show some (AV.gr 3 (re.length + 1)) = some (AV.gr 3 (mdBK R (mdS0 u room) (k + 1)).re.length)
      rw [hnx]; dsimp only; rw [List.length_append]; rfl
    · show some (AV.gr 5 (ch.length + 1)) = some (AV.gr 5 (mdBK R (mdS0 u room) (k + 1)).ch.length)
      rw [hnx]; dsimp only; rw [List.length_append]; rfl
  · have hf := hfin (by omega)
    have hB : madeB u room months = ⟨R, mdFst u room, mdUns u, ms.isEmpty, ms, true, []⟩ := by unfold madeB; rw [hf, hRR]
    rw [hB, hf]
    exact ⟨rfl, rfl, fun y hy => by simp only [List.mem_cons, List.not_mem_nil, or_false] at hy; subst hy; exact hpC_low _,
      bedMade_end (i1 := 4) (i2 := 3) (i3 := 5) ⟨R, mdFst u room, mdUns u, ms.isEmpty, ms, true, []⟩ re ch false v rfl (by decide) (by decide) (by decide) rfl rfl rfl rfl rfl rfl rfl⟩
end GA
end

section
namespace GA
open Go Go.RowKit Go.Proofs
set_option linter.unusedVariables false
set_option linter.unusedSimpArgs false

def Fle (a b : Int × Int) : Prop := a.1 * b.2 ≤ b.1 * a.2
theorem Fle.refl (a : Int × Int) : Fle a a := Int.le_refl _
theorem Fle.trans {a b c : Int × Int} (h1 : Fle a b) (h2 : Fle b c) (ha : 0 ≤ a.2) (hb : 0 < b.2) (hc : 0 ≤ c.2) : Fle a c := by
  unfold Fle at *
  have e1 : a.1 * b.2 * c.2 ≤ b.1 * a.2 * c.2 := Int.mul_le_mul_of_nonneg_right h1 hc
  have e2 : b.1 * c.2 * a.2 ≤ c.1 * b.2 * a.2 := Int.mul_le_mul_of_nonneg_right h2 ha
  have e3 : a.1 * c.2 * b.2 ≤ c.1 * a.2 * b.2 := by
    calc a.1 * c.2 * b.2 = a.1 * b.2 * c.2 := by rw [Int.mul_right_comm]
      _ ≤ b.1 * a.2 * c.2 := e1
      _ = b.1 * c.2 * a.2 := by rw [Int.mul_right_comm]
      _ ≤ c.1 * b.2 * a.2 := e2
      _ = c.1 * a.2 * b.2 := by rw [Int.mul_right_comm]
  exact Int.le_of_mul_le_mul_right e3 hb
def nxQ (parts s : List Int) (i : Nat) : Int × Int := (parts.getD i 0, 2 * s.getD i 0 + 1)
def lsQ (parts s : List Int) (i : Nat) : Int × Int := (parts.getD i 0, 2 * s.getD i 0 - 1)
def Web (parts s : List Int) : Prop := ∀ i j, i < 6 → j < 6 → 0 < s.getD i 0 → Fle (nxQ parts s j) (lsQ parts s i)

theorem Web.none {parts s : List Int} (h : Web parts s) (hs : ∀ i, 0 ≤ s.getD i 0) (hp : ∀ i, 0 ≤ parts.getD i 0) (hg : ∃ j, j < 6 ∧ 0 < parts.getD j 0) {i : Nat} (hi : i < 6) (h0 : parts.getD i 0 = 0) : s.getD i 0 = 0 := by
  obtain ⟨j, hj, hw⟩ := hg
  rcases Int.lt_or_le 0 (s.getD i 0) with h1 | h1
  · exfalso
    have h2 := h i j hi hj h1
    unfold Fle nxQ lsQ at h2; simp only at h2
    rw [h0, Int.zero_mul] at h2
    have := Int.mul_pos hw (show 0 < 2 * s.getD i 0 - 1 by omega)
    omega
  · have := hs i; omega
theorem Web.mono {parts s : List Int} (h : Web parts s) (hs : ∀ i, 0 ≤ s.getD i 0) (hp : ∀ i, 0 ≤ parts.getD i 0) {i k : Nat} (hi : i < 6) (hk : k < 6) (hlt : parts.getD k 0 < parts.getD i 0) : s.getD k 0 ≤ s.getD i 0 := by
  rcases Int.lt_or_le (s.getD i 0) (s.getD k 0) with h1 | h1
  · exfalso
    have h0 := hs i
    have h2 := h k i hk hi (by omega)
    unfold Fle nxQ lsQ at h2; simp only at h2
    have h3 : parts.getD i 0 * (2 * s.getD i 0 + 1) ≤ parts.getD i 0 * (2 * s.getD k 0 - 1) := Int.mul_le_mul_of_nonneg_left (by omega) (hp i)
    have h4 : parts.getD k 0 * (2 * s.getD i 0 + 1) < parts.getD i 0 * (2 * s.getD i 0 + 1) := Int.mul_lt_mul_of_pos_right hlt (by omega)
    omega
  · exact h1
end GA
end

section
namespace GA
open Go Go.RowKit Go.Proofs
set_option pp.deepTerms true
set_option maxRecDepth 8000
set_option linter.unusedVariables false
set_option linter.unusedSimpArgs false

def ndR (parts s : List Int) (d : Int × Int) (i : Nat) : Bool := decide (d.1 * (2 * s.getD i 0 + 1) < parts.getD i 0 * d.2) || (decide (0 < s.getD i 0) && decide (parts.getD i 0 * d.2 < d.1 * (2 * s.getD i 0 - 1)))
def dvB (parts s : List Int) (d : Int × Int) : Bool := (List.range 6).all fun i => !ndR parts s d i
end GA
end

section
namespace GA
open Go Go.RowKit Go.Proofs
set_option pp.deepTerms true
set_option maxRecDepth 8000
set_option linter.unusedVariables false
set_option linter.unusedSimpArgs false

def ElR (parts s : List Int) (i : Nat) : Prop := 0 < s.getD i 0 ∧ 0 < parts.getD i 0 ∧ dvB parts s (lsQ parts s i) = true
def DvI (parts s : List Int) (k : Nat) (q : Int × Int) : Prop := (q = (0, 1) ∧ ∀ i, i < k → ¬ ElR parts s i) ∨ ∃ i, i < k ∧ ElR parts s i ∧ q = lsQ parts s i
end GA
end

section
namespace GA
open Go Go.RowKit Go.Proofs
set_option pp.deepTerms true
set_option maxRecDepth 8000
set_option linter.unusedVariables false
set_option linter.unusedSimpArgs false

theorem DvI.keep {parts s : List Int} {k : Nat} {q : Int × Int} (h : DvI parts s k q) (hq : q.1 ≠ 0) : DvI parts s (k + 1) q := by
  rcases h with ⟨e, h⟩ | ⟨i, h1, h2, h3⟩
  · rw [e] at hq; exact absurd rfl hq
  · exact .inr ⟨i, by omega, h2, h3⟩
end GA
end

section
namespace GA
open Go Go.RowKit Go.Proofs
set_option pp.deepTerms true
set_option maxRecDepth 8000
set_option linter.unusedVariables false
set_option linter.unusedSimpArgs false

theorem partsOk_c (l : Ld) (o : LdW l) (h : checkR l = 0) : Comp Try.prog 53 [ldA l] (.tup [.sl false (ints (partsR l)), .int .i64 0]) := by
  refine Comp.body (T := tab) (res := [.tmp 2, .tmp 3]) tab_ok [] Try.func53 rfl (by kernel_rfl) Try.ntmps53 rfl (by simp only [List.length_cons, List.length_nil]; decide) (by simp only [lowL, AV.low, ldL]; rfl) ?_; conv => whnf
  refine XCall.ret (check_c l o.w o.h1 o.h2 o.h3) ?_
  conv => whnf
  repeat' first | ((with_reducible apply XBr.bne) <;> (intro h; first | (exfalso; omega) | (conv => whnf)))
  refine XCall.ret (parts_c l ((checkR_ok l).1 h)) ?_
  conv => whnf
  exact ⟨Froz.low (by show lowL 0 _ = true; simp only [lowL, AV.low, lowI]; rfl)⟩
end GA
end

section
namespace GA
open Go Go.RowKit Go.Proofs
set_option pp.deepTerms true
set_option maxRecDepth 8000
set_option linter.unusedVariables false
set_option linter.unusedSimpArgs false

def fewA (l : Ld) : AV := if 9 < manyD (openD l) then .tup [.sl true [], .int .i64 0, .int .i64 6] else .tup [.sl false (nats (loadI (openD l) (manyD (openD l)) (manyD (openD l))).out), natA (manyD (openD l)), .int .i64 0]
theorem few_c (l : Ld) (o : LdOk l) (w : LdW l) : Comp Try.prog 18 [ldA l] (fewA l) := by
  have h := fewest_c l w.w w.h1 w.h2 w.h3
  unfold fewestR fewestD at h
  rw [if_pos ((checkR_ok l).2 o)] at h
  exact h
theorem few_is (l : Ld) (o : LdOk l) (w : LdW l) (h : ¬ 9 < manyD (openD l)) : ∃ out : List Nat, Comp Try.prog 18 [ldA l] (.tup [.sl false (nats out), natA (manyD (openD l)), .int .i64 0]) := by
  have e := few_c l o w; unfold fewA at e; rw [if_neg h] at e; exact ⟨_, e⟩
theorem wshrink {m s s' : Int} (h0 : 0 ≤ m) (h : s ≤ s') : m - m * s' / 100 ≤ m - m * s / 100 := by
  have h1 : m * s ≤ m * s' := Int.mul_le_mul_of_nonneg_left h h0
  have := Int.ediv_le_ediv (show (0 : Int) < 100 by decide) h1
  omega
theorem RightP.bears {l : Ld} {b : Int} (hb : l.bears ≤ b) {c : Nat} (h : RightP l c) : RightP { l with bears := b } c :=
  ⟨by have := h.w; show (sumW (wts l) c : Int) ≤ b; omega, h.wp, h.ap⟩
theorem RightP.shrink {l : Ld} (o : LdOk l) {s : Int} (hs : l.shrink ≤ s) {c : Nat} (h : RightP l c) : RightP { l with shrink := s } c :=
  ⟨by
    have h1 := h.w
    have h2 := sumW_le_of (wts { l with shrink := s }) (wts l) c (by simp [wts]) (fun i => by
      simp only [wts, List.getD_eq_getElem?_getD, List.getElem?_map]
      cases e : l.sacks[i]? with
      | none => simp
      | some x =>
        simp only [Option.map_some, Option.getD_some]
        have hx := o.sk x (List.mem_of_getElem? e)
        unfold wt weightR
        have := wshrink (m := x.m) (by omega) hs
        dsimp only; omega)
    show (sumW (wts { l with shrink := s }) c : Int) ≤ l.bears
    omega, h.wp, h.ap⟩
end GA
end

section
namespace GA
open Go Go.RowKit Go.Proofs
set_option pp.deepTerms true
set_option maxRecDepth 8000
set_option linter.unusedVariables false
set_option linter.unusedSimpArgs false

theorem Pk.singles {R : Nat → Bool} : ∀ (n set : Nat), set < 2 ^ n → (∀ i, set.testBit i = true → R (2 ^ i) = true) → ∃ k, Pk R k set
  | 0, set, h, _ => by obtain rfl : set = 0 := by omega
                       exact ⟨0, .nil⟩
  | n + 1, set, h, hR => by
    by_cases hb : set.testBit n = true
    · have hd : diff set (2 ^ n) < 2 ^ n := by
        refine Nat.lt_pow_two_of_testBit _ fun i hi => ?_
        rw [diff_bit]
        by_cases e : i = n
        · subst e; rw [Nat.testBit_two_pow_self]; simp
        · have : set.testBit i = false := Nat.testBit_lt_two_pow (Nat.lt_of_lt_of_le h (Nat.pow_le_pow_right (by omega) (by omega)))
          rw [this]; rfl
      obtain ⟨k, hk⟩ := Pk.singles n (diff set (2 ^ n)) hd (fun i hi => hR i (by rw [diff_bit, Bool.and_eq_true] at hi; exact hi.1))
      exact ⟨k + 1, .cons (2 ^ n) (hR n hb) (sub_pow.2 hb) (by have := Nat.two_pow_pos n; omega) hk⟩
    · refine Pk.singles n set (Nat.lt_pow_two_of_testBit _ fun i hi => ?_) hR
      by_cases e : i = n
      · subst e; simpa using hb
      · exact Nat.testBit_lt_two_pow (Nat.lt_of_lt_of_le h (Nat.pow_le_pow_right (by omega) (by omega)))
theorem sumW_single : ∀ (ws : List Nat) (i : Nat), sumW ws (2 ^ i) = ws.getD i 0
  | [], i => by simp [sumW]
  | w :: ws, 0 => by
    show (if (2 ^ 0) % 2 = 1 then w else 0) + sumW ws (2 ^ 0 / 2) = w
    rw [show 2 ^ 0 / 2 = 0 from rfl, sumW_zero]; simp
  | w :: ws, i + 1 => by
    show (if (2 ^ (i + 1)) % 2 = 1 then w else 0) + sumW ws (2 ^ (i + 1) / 2) = ws.getD i 0
    rw [if_neg (by rw [Nat.pow_succ]; omega), show 2 ^ (i + 1) / 2 = 2 ^ i by rw [Nat.pow_succ]; omega, sumW_single ws i, Nat.zero_add]
theorem many_raked {l : Ld} (o : LdOk l) (ha : l.apart = []) (hw : l.wth = []) (h1 : ∀ s ∈ l.sacks, weightR l s ≤ l.bears) : manyD (openD l) ≤ l.sacks.length ∧ ¬ 9 < manyD (openD l) ∧ ((wts l).sum : Int) ≤ manyD (openD l) * l.bears := by
  have a := many_opt (openD l) o.n
  have hp := Nat.two_pow_pos l.sacks.length
  have hn := o.n
  obtain ⟨k, hk⟩ := Pk.singles (R := rightB (openD l)) l.sacks.length (2 ^ l.sacks.length - 1) (by omega) fun i hi => by
    have hil : i < l.sacks.length := bit_lt (n := l.sacks.length) (by omega) hi
    refine (right_iff o (Nat.pow_lt_pow_right (by omega) hil)).2 ((RightP.free ha hw).2 ?_)
    rw [sumW_single]
    have hm := getD_mem (xs := l.sacks) (i := i) (d := default) hil
    have := h1 _ hm
    have h2 := wt_le o hm
    have e : (wts l).getD i 0 = wt l (l.sacks.getD i default) := wts_get l hil
    rw [e, h2.1]; exact this
  have hl := hk.len
  have hlo := a.lo _ hk
  have hle : manyD (openD l) ≤ k := hlo
  have hP := a.is (by omega)
  refine ⟨by omega, by omega, ?_⟩
  have hs := hP.sum (wts l) l.bears.toNat fun c hc hr => by
    have hlt : c < 2 ^ l.sacks.length := by have h : c ≤ 2 ^ l.sacks.length - 1 := hc.le; omega
    have := (right_iff o hlt).1 hr
    have := this.w
    omega
  have e : sumW (wts l) (allD (openD l)) = (wts l).sum := by
    have : (wts l).length = l.sacks.length := List.length_map _
    rw [← sumW_all, this]; rfl
  have hs2 : (wts l).sum ≤ manyD (openD l) * l.bears.toNat := by rw [← e]; exact hs
  have hb := o.b1
  have : ((manyD (openD l) * l.bears.toNat : Nat) : Int) = manyD (openD l) * l.bears := by
    rw [Int.natCast_mul, Int.toNat_of_nonneg (by omega)]
  omega
def rakS (plan : List Int) : Nat → List Sk
  | 0 => []
  | k + 1 => if 0 < plan.getD k default then rakS plan k ++ [⟨plan.getD k default, (k : Int).tmod 6⟩] else rakS plan k
theorem rakS_ok {plan : List Int} {room : Int} (h : ∀ x ∈ plan, 0 ≤ x ∧ x ≤ room) (hr : room ≤ 100) : ∀ k, k ≤ plan.length → (rakS plan k).length ≤ k ∧ ((rakS plan k).map Sk.m).sum ≤ 100 * k ∧ 0 ≤ ((rakS plan k).map Sk.m).sum ∧ ∀ s ∈ rakS plan k, 1 ≤ s.m ∧ s.m ≤ room ∧ 0 ≤ s.o ∧ s.o ≤ 5
  | 0, _ => ⟨Nat.le_refl _, by simp [rakS], by simp [rakS], by simp [rakS]⟩
  | k + 1, hk => by
    obtain ⟨h1, h2, h3, h4⟩ := rakS_ok h hr k (by omega)
    have hx := h _ (getD_mem (xs := plan) (i := k) (d := default) (by omega))
    show (if 0 < plan.getD k default then rakS plan k ++ [(⟨plan.getD k default, (k : Int).tmod 6⟩ : Sk)] else rakS plan k).length ≤ _ ∧ ((if 0 < plan.getD k default then rakS plan k ++ [(⟨plan.getD k default, (k : Int).tmod 6⟩ : Sk)] else rakS plan k).map Sk.m).sum ≤ _ ∧ 0 ≤ ((if 0 < plan.getD k default then rakS plan k ++ [(⟨plan.getD k default, (k : Int).tmod 6⟩ : Sk)] else rakS plan k).map Sk.m).sum ∧ ∀ s ∈ (if 0 < plan.getD k default then rakS plan k ++ [(⟨plan.getD k default, (k : Int).tmod 6⟩ : Sk)] else rakS plan k), _
    generalize plan.getD k default = x at *
    split
    · refine ⟨by simp; omega, by simp; omega, by simp; omega, fun s hs => ?_⟩
      rcases List.mem_append.1 hs with hs | hs
      · exact h4 s hs
      · simp only [List.mem_singleton] at hs; subst hs
        have := Int.tmod_eq_emod_of_nonneg (a := (k : Int)) (b := 6) (by omega)
        dsimp only; omega
    · exact ⟨by omega, by omega, h3, h4⟩
def rakL (bears : Int) (ss : List Sk) : Ld := ⟨bears, 0, ss.isEmpty, ss, true, [], true, []⟩
theorem rakL_ok {bears room : Int} {ss : List Sk} (h1 : 1 ≤ bears) (h2 : bears ≤ 100) (hn : ss.length ≤ 9) (hr : room ≤ 100) (h : ∀ s ∈ ss, 1 ≤ s.m ∧ s.m ≤ room ∧ 0 ≤ s.o ∧ s.o ≤ 5) : LdOk (rakL bears ss) where
  n := hn
  na := Nat.zero_le _
  nw := Nat.zero_le _
  b1 := h1
  b2 := h2
  s1 := Int.le_refl 0
  s2 := by show (0 : Int) ≤ 90; decide
  sk := fun s hs => by have := h s hs; omega
  ap := fun p hp => by simp [rakL] at hp
  wp := fun p hp => by simp [rakL] at hp
theorem rakW (bears : Int) (ss : List Sk) (s : Sk) : weightR (rakL bears ss) s = s.m := by
  unfold weightR rakL; simp
set_option maxHeartbeats 2000000 in
theorem sackRaked_c (n1 : Bool) (xs : List Int) (p q : Int) (hx : xs.length < 9223372036854775808) (hp : 0 ≤ p ∧ p ≤ 255) (hq : 0 ≤ q ∧ q ≤ 255) :
    Comp Try.prog 13 [.sl n1 (bytes xs), .int .u8 p, .int .u8 q] (.bool true) := by
  have uo := hp0_ok (nl := n1) hx
  have mo := bedMade_c (hp0 n1 xs) 60 5 uo (by omega) (by omega) (by omega) (by omega)
  have bo := madeB_ok uo (room := 60) (months := 5) (by omega) (by omega) (by omega) (by omega)
  have bs : (madeB (hp0 n1 xs) 60 5).surveys = [] := rfl
  have br : (madeB (hp0 n1 xs) 60 5).room ≤ 60 := by
    have := modV_bound (hp0 n1 xs) (60 - 2)
    show mdRoom _ _ ≤ 60
    unfold mdRoom; omega
  have bm : (madeB (hp0 n1 xs) 60 5).months.length ≤ 5 := by
    have e := mdBK_ok (mdS0_ok uo (show (2 : Int) ≤ 60 by omega)) (mdMany (hp0 n1 xs) 5).toNat
    have g4 := modV_bound (mdH (hp0 n1 xs)) (5 - 1)
    have := e.ml
    show (mdBK _ _ _).ms.length ≤ 5
    rw [this]; unfold mdMany; omega
  generalize madeB (hp0 n1 xs) 60 5 = b at mo bo bs br bm
  generalize mdE (hp0 n1 xs) 60 5 = E at mo
  obtain ⟨ems, enow, ere, ech, u1⟩ := E
  dsimp only at mo
  have hE := (bedE_ok b bs).2 bo
  have r1 := bo.r1
  have hsh : 0 ≤ p.tmod (b.room + 1) ∧ p.tmod (b.room + 1) ≤ b.room := by
    rw [Int.tmod_eq_emod_of_nonneg hp.1]
    have := Int.emod_nonneg p (show b.room + 1 ≠ 0 by omega)
    have := Int.emod_lt_of_pos p (show 0 < b.room + 1 by omega)
    omega
  have hbe : 0 ≤ q.tmod (100 - b.room + 1) ∧ q.tmod (100 - b.room + 1) ≤ 100 - b.room := by
    rw [Int.tmod_eq_emod_of_nonneg hq.1]
    have := Int.emod_nonneg q (show 100 - b.room + 1 ≠ 0 by omega)
    have := Int.emod_lt_of_pos q (show 0 < 100 - b.room + 1 by omega)
    omega
  have hmo := most_c b (p.tmod (b.room + 1)) hE bs hsh
  have hpl := planM_b bo (p.tmod (b.room + 1)) b.months.length (Nat.le_refl _) (leastR b).toNat
  unfold mostA at hmo
  generalize planM b (p.tmod (b.room + 1)) b.months.length (leastR b).toNat = plan at hmo hpl
  refine Comp.body' (T := tab) (res := [.tmp 6]) tab_ok [] Try.func13 rfl (by kernel_rfl) Try.ntmps13 rfl (by simp only [List.length_cons, List.length_nil]; decide) (by simp only [lowL, AV.low, lowBy]; rfl) ?_; conv => whnf
  repeat' first | (refine XCall.inl (T := tab) (res := [.tmp 2]) tab_ok [5] Try.func17 rfl (by kernel_rfl) Try.ntmps17 rfl (by simp only [List.length_append, List.length_cons, List.length_nil]; decide) ?_; conv => whnf) | ((refine XCall.hp (j := 0) mo (by simp only [AV.low, lowL, bedL, lowI, lowPr]; rfl) rfl ?_); conv => whnf) | fail
  by_cases hv : valM b (p.tmod (b.room + 1)) b.months.length (leastR b).toNat = -1
  · rw [if_pos hv] at hmo
    apply Walk.drawX tab_ok mixed_ok [] [] (hsK _) [_, _, _, _, _, _, .int .i64 (p.tmod (b.room + 1)), _, _, _, _, _, _] (by kernel_rfl) rfl
    · skip
      repeat' first | ((with_reducible refine XInt.i64 (by omega) (by omega) ?_); conv => whnf) | ((with_reducible refine XHold.mk ?_ ?_); (first | omega | rfl | decide | exact ⟨rfl, by decide, rfl⟩ | exact wideI _ | exact widePr _ | exact wideSk _ | (unfold Room; constructor <;> ((try simp) <;> omega)) | exact ⟨rfl, by simp only [List.length_map], by unfold Room; constructor <;> ((try simp) <;> omega)⟩ | exact ⟨by omega, by omega, by unfold Room; constructor <;> ((try simp) <;> omega)⟩); conv => whnf) | (with_reducible apply XAnd.mk) | ((first | (with_reducible apply Chk.go) | (with_reducible apply ChkA.go)); conv => whnf) | (exact XSame.mk rfl rfl) | (with_reducible exact trivial) | ((refine XCall.ret hmo ?_); conv => whnf) | fail
    · skip
      repeat' first | (with_reducible apply XAnd.mk) | ((first | (with_reducible apply ChkF.go) | (with_reducible apply ChkB.go)); conv => whnf) | (with_reducible exact trivial) | fail
    conv => whnf
    repeat' first | ((with_reducible apply XBr.tt); conv => whnf) | ((with_reducible apply XBr.beq) <;> (intro h; first | (exfalso; omega) | (conv => whnf))) | ((with_reducible apply XBr.bne) <;> (intro h; first | (exfalso; omega) | (conv => whnf))) | ((refine XCall.ret awake_c ?_); conv => whnf) | fail
    exact XOut.bool rfl
  · rw [if_neg hv] at hmo
    have hpx := hpl.1
    have hpn := hpl.2
    have hbg : 1 ≤ b.room + q.tmod (100 - b.room + 1) ∧ b.room + q.tmod (100 - b.room + 1) ≤ 100 ∧ b.room ≤ b.room + q.tmod (100 - b.room + 1) := by omega
    apply Walk.drawX tab_ok mixed_ok [] [] (hsK _) [_, _, _, _, _, _, .int .i64 (p.tmod (b.room + 1)), _, _, _, _, _, _] (by kernel_rfl) rfl
    · skip
      repeat' first | ((with_reducible refine XInt.i64 (by omega) (by omega) ?_); conv => whnf) | ((with_reducible refine XHold.mk ?_ ?_); (first | omega | rfl | decide | exact ⟨rfl, by decide, rfl⟩ | exact wideI _ | exact widePr _ | exact wideSk _ | (unfold Room; constructor <;> ((try simp) <;> omega)) | exact ⟨rfl, by simp only [List.length_map], by unfold Room; constructor <;> ((try simp) <;> omega)⟩ | exact ⟨by omega, by omega, by unfold Room; constructor <;> ((try simp) <;> omega)⟩); conv => whnf) | (with_reducible apply XAnd.mk) | ((first | (with_reducible apply Chk.go) | (with_reducible apply ChkA.go)); conv => whnf) | (exact XSame.mk rfl rfl) | (with_reducible exact trivial) | ((refine XCall.ret hmo ?_); conv => whnf) | fail
    · skip
      repeat' first | (with_reducible apply XAnd.mk) | ((first | (with_reducible apply ChkF.go) | (with_reducible apply ChkB.go)); conv => whnf) | (with_reducible exact trivial) | fail
    conv => whnf
    repeat' first | ((with_reducible apply XBr.bne) <;> (intro h; first | (exfalso; omega) | (conv => whnf))) | fail
    all_goals first | (exfalso; omega) | skip
    apply Walk.drawX tab_ok mixed_ok [] [11, 12] (hsV _ [id, fun H => H ++ [.cells [.int .i64 0, .int .i64 0, .sl true [], .sl true [], .sl true []]], fun H => H ++ [.cells [.int .i64 (b.room + q.tmod (100 - b.room + 1)), .int .i64 0, .sl true [], .sl true [], .sl true []]]]) [_, _, _, _, _, _, _, _, _, _, _, _, _] (by kernel_rfl) rfl
    · skip
      repeat' first | ((with_reducible refine XInt.i64 (by omega) (by omega) ?_); conv => whnf) | ((with_reducible refine XHold.mk ?_ ?_); (first | omega | rfl | decide | exact ⟨rfl, by decide, rfl⟩ | exact wideI _ | exact widePr _ | exact wideSk _ | (unfold Room; constructor <;> ((try simp) <;> omega)) | exact ⟨rfl, by simp only [List.length_map], by unfold Room; constructor <;> ((try simp) <;> omega)⟩ | exact ⟨by omega, by omega, by unfold Room; constructor <;> ((try simp) <;> omega)⟩); conv => whnf) | (with_reducible apply XAnd.mk) | ((first | (with_reducible apply Chk.go) | (with_reducible apply ChkA.go)); conv => whnf) | (exact XSame.mk rfl rfl) | (with_reducible exact trivial) | fail
    · skip
      repeat' first | ((with_reducible refine XInt.i64 (by omega) (by omega) ?_); conv => whnf) | ((with_reducible refine XHold.mk ?_ ?_); (first | omega | rfl | decide | exact ⟨rfl, by decide, rfl⟩ | exact wideI _ | exact widePr _ | exact wideSk _ | (unfold Room; constructor <;> ((try simp) <;> omega)) | exact ⟨rfl, by simp only [List.length_map], by unfold Room; constructor <;> ((try simp) <;> omega)⟩ | exact ⟨by omega, by omega, by unfold Room; constructor <;> ((try simp) <;> omega)⟩); conv => whnf) | (with_reducible apply XAnd.mk) | ((first | (with_reducible apply Chk.go) | (with_reducible apply ChkF.go) | (with_reducible apply ChkB.go)); conv => whnf) | (exact XSame.mk rfl rfl) | (with_reducible exact trivial) | fail
    generalize b.room + q.tmod (100 - b.room + 1) = bears at *
    conv => whnf
    skip
    clear hmo hbe hsh hv
    have hrk := rakS_ok hpx (by omega)
    refine Walk.nilcell 2 2 113 rfl rfl ?_
    refine Walk.loop tab_ok [] (fun k : Nat => k ≤ plan.length) (fun k => [(7, .ptr 1 0), (12, .ptr 2 0), (58, slA plan), (59, .int .i64 (ints plan).length), (13, .int .i64 ((rakS plan k).map Sk.m).sum), (60, natA k)])
      (fun k => [hpC u1, .cells (bedC b), .cells [.int .i64 bears, .int .i64 0, .gr 3 (rakS plan k).length, .sl true [], .sl true []], .grow 113 (rakS plan k).isEmpty ((rakS plan k).map skA)]) (fun k => plan.length - k) 0 (Nat.zero_le _) rfl ⟨rfl, rfl, rfl, rfl, rfl, rfl, trivial⟩ ?_
    intro k hk
    obtain ⟨k1, k2, k3, k4⟩ := hrk k hk
    have knx : rakS plan (k + 1) = if 0 < plan.getD k default then rakS plan k ++ [⟨plan.getD k default, (k : Int).tmod 6⟩] else rakS plan k := rfl
    have kx := fun (h : k < plan.length) => hpx _ (getD_mem (xs := plan) (i := k) (d := default) h)
    have e5 : ((ints plan).length : Int) = plan.length := by rw [List.length_map]
    generalize rakS plan k = ss at k1 k2 k3 k4 knx
    conv => whnf
    repeat' first | ((first | (with_reducible apply XBr.tt) | (with_reducible apply XBr.ff)); conv => whnf) | ((with_reducible apply XBr.dec) <;> (intro h; first | (exfalso; omega) | ((try simp only [List.length_map] at h); first | (exfalso; omega) | (conv => whnf)))) | ((with_reducible refine XInt.i64 (by omega) (by omega) ?_); conv => whnf) | ((with_reducible refine XHold.mk ?_ ?_); (first | omega | rfl | decide | exact ⟨rfl, by decide, rfl⟩ | exact wideI _ | exact widePr _ | exact wideSk _ | (unfold Room; constructor <;> ((try simp) <;> omega)) | exact ⟨rfl, by simp only [List.length_map], by unfold Room; constructor <;> ((try simp) <;> omega)⟩ | exact ⟨by omega, by omega, by unfold Room; constructor <;> ((try simp) <;> omega)⟩); conv => whnf) | ((first | ((with_reducible refine XIx.nat ?_ ?_ ?_); omega; (intro _; rfl)) | (refine XHold.mk (by rw [List.length_map]) ?_)); conv => whnf) | fail
    · have hx : 0 < plan.getD k default := by assumption
      rw [if_pos hx] at knx
      refine XAgain.go (k + 1) (by omega) (by omega) ?_ ⟨rfl, rfl, rfl, rfl, ?_, rfl, trivial⟩
      · rw [knx]
        show [hpC u1, Blk.cells (bedC b), Blk.cells [.int .i64 bears, .int .i64 0, .gr 3 (ss ++ [(⟨plan.getD k default, (k : Int).tmod 6⟩ : Sk)]).length, .sl true [], .sl true []], Blk.grow 113 (ss ++ [(⟨plan.getD k default, (k : Int).tmod 6⟩ : Sk)]).isEmpty (List.map skA (ss ++ [⟨plan.getD k default, (k : Int).tmod 6⟩]))] = _
        rw [List.map_append, isEmpty_app, List.length_append]
        rfl
      · show some (AV.int .i64 ((ss.map Sk.m).sum + plan.getD k default)) = some (AV.int .i64 ((rakS plan (k + 1)).map Sk.m).sum)
        rw [knx, List.map_append, List.sum_append]; simp
    · rw [if_neg (by assumption)] at knx
      refine XAgain.go (k + 1) (by omega) (by omega) (by rw [knx]) ⟨rfl, rfl, rfl, rfl, ?_, rfl, trivial⟩
      show some (AV.int .i64 ((ss.map Sk.m).sum)) = some (AV.int .i64 ((rakS plan (k + 1)).map Sk.m).sum)
      rw [knx]
    · have lo := rakL_ok (bears := bears) (ss := ss) hbg.1 hbg.2.1 (by omega) (by omega) k4
      have lw : LdW (rakL bears ss) := ldW lo (fun _ => rfl)
      obtain ⟨m1, m2, m3⟩ := many_raked lo rfl rfl (fun s hs => by rw [rakW]; have := k4 s hs; show s.m ≤ bears; omega)
      obtain ⟨out, hfew⟩ := few_is (rakL bears ss) lo lw m2
      have hpa := partsOk_c (rakL bears ss) lw ((checkR_ok _).2 lo)
      have hpok := parts_ok lo
      have hps := parts_sum lo ss (List.replicate 6 0) (fun s hs => hs) (by simp)
      have hw : ss.map (weightR (rakL bears ss)) = ss.map Sk.m := List.map_congr_left fun s _ => rakW bears ss s
      have hws : ((wts (rakL bears ss)).sum : Int) = (ss.map Sk.m).sum := by
        have : ∀ ts : List Sk, (∀ s ∈ ts, s ∈ ss) → (((ts.map (wt (rakL bears ss))).sum : Nat) : Int) = (ts.map Sk.m).sum := by
          intro ts
          induction ts with
          | nil => intro _; rfl
          | cons t ts ih =>
            intro h
            rw [List.map_cons, List.map_cons, List.sum_cons, List.sum_cons, Int.natCast_add, ih fun s hs => h s (List.mem_cons_of_mem _ hs), (wt_le lo (h t List.mem_cons_self)).1, rakW]
        exact this ss fun s hs => hs
      rw [hws] at m3
      have hpsum : (partsR (rakL bears ss)).sum = (ss.map Sk.m).sum := by
        show (ss.foldl (partStep (rakL bears ss)) (List.replicate 6 0)).sum = _
        rw [hps, hw]; simp
      have m1' : manyD (openD (rakL bears ss)) ≤ ss.length := m1
      generalize manyD (openD (rakL bears ss)) = many at hfew m1 m2 m3 m1'
      generalize partsR (rakL bears ss) = ps at hpa hpok hpsum
      have m3' : (ss.map Sk.m).sum ≤ (many : Int) * bears := m3
      have hmb : 0 ≤ (many : Int) * bears ∧ (many : Int) * bears ≤ 9 * 100 := ⟨Int.mul_nonneg (by omega) (by omega), Int.mul_le_mul (by omega) (by omega) (by omega) (by omega)⟩
      refine XCall.freezeCell 2 2 3 ss.length (t := 113) (nl := ss.isEmpty) (els := ss.map skA) rfl rfl rfl (by rw [List.length_map]) (.agg (cs' := ldC (rakL bears ss)) (by intro x hx; simp only [ldC, List.mem_cons, List.not_mem_nil, or_false] at hx; rcases hx with rfl | rfl | rfl | rfl | rfl <;> rfl) (.same (.same (.gr (.same (.same .nil))))) .nil) ?_
      refine XCall.ret hfew ?_
      conv => whnf
      repeat' first | ((refine XCall.ret hpa ?_); conv => whnf) | fail
      have e6 : ((ss.map skA).length : Int) = ss.length := by rw [List.length_map]
      refine Walk.norm tab_ok [] [(11, .int .i64 0), (12, .ptr 2 0), (13, .int .i64 (ss.map Sk.m).sum), (17, natA many), (18, .sl false (ints ps)), (19, .int .i64 0)] ⟨rfl, rfl, rfl, rfl, rfl, rfl, trivial⟩ ?_
      conv => whnf
      repeat' first | ((with_reducible apply XBr.ff); conv => whnf) | ((with_reducible apply XBr.dec) <;> (intro h; first | (exfalso; omega) | ((try simp only [List.length_map] at h); first | (exfalso; omega) | (conv => whnf)))) | ((with_reducible apply XBr.bne) <;> (intro h; first | (exfalso; omega) | (conv => whnf))) | ((with_reducible refine XInt.i64 (by omega) (by omega) ?_); conv => whnf) | fail
      all_goals first | (exfalso; omega) | skip
      have hp6 := hpok.1
      have hpt : ∀ i, i ≤ 6 → 0 ≤ (ps.take i).sum ∧ (ps.take i).sum ≤ 900 * i := by
        intro i
        induction i with
        | zero => intro _; simp
        | succ i ih =>
          intro h
          have h1 := ih (by omega)
          have h2 := hpok.2 i
          rw [take_next (by omega), List.sum_append]
          have : ps.getD i default = ps.getD i 0 := rfl
          simp only [List.sum_cons, List.sum_nil]
          omega
      refine Walk.loop tab_ok [] (fun i : Nat => i ≤ 6) (fun i => [(126, .sl false (ints ps)), (127, .int .i64 (ints ps).length), (13, .int .i64 ((ss.map Sk.m).sum - (ps.take i).sum)), (128, natA i)]) (fun _ => [hpC u1, .cells (bedC b), .cells (ldC (rakL bears ss)), .dead]) (fun i => 6 - i) 0 (Nat.zero_le _) rfl ⟨rfl, rfl, ?_, rfl, trivial⟩ ?_
      · exact congrArg (fun z => some (AV.int .i64 z)) (by simp)
      intro i hi
      have hti := hpt i hi
      have hpi := hpok.2 i
      have hpn' : i < 6 → (ps.take (i + 1)).sum = (ps.take i).sum + ps.getD i default := fun h => by rw [take_next (by omega), List.sum_append]; simp
      have hpe : i = 6 → (ps.take i).sum = ps.sum := fun h => by rw [List.take_of_length_le (by omega)]
      have hpd : ps.getD i default = ps.getD i 0 := rfl
      rw [← hpd] at hpi
      have e7 : ((ints ps).length : Int) = 6 := by rw [List.length_map]; omega
      generalize (ps.take i).sum = tt at hti hpn' hpe
      conv => whnf
      repeat' first | ((with_reducible apply XBr.tt); conv => whnf) | ((with_reducible apply XBr.dec) <;> (intro h; first | (exfalso; omega) | ((try simp only [List.length_map] at h); first | (exfalso; omega) | (conv => whnf)))) | ((with_reducible apply XBr.beq) <;> (intro h; first | (exfalso; omega) | (conv => whnf))) | ((first | (with_reducible refine XInt.i64 (by omega) (by omega) ?_) | ((with_reducible refine XIx.nat ?_ ?_ ?_); omega; (intro _; rfl)) | (refine XCall.ret awake_c ?_)); conv => whnf) | fail
      · refine XAgain.go (i + 1) (by omega) (by omega) rfl ⟨rfl, rfl, ?_, rfl, trivial⟩
        show some (AV.int .i64 ((ss.map Sk.m).sum - tt - ps.getD i default)) = some (AV.int .i64 ((ss.map Sk.m).sum - (ps.take (i + 1)).sum))
        rw [hpn' (by omega), Int.sub_sub]
      · exact XOut.bool rfl
end GA
end
