/- Part 8 of a proof: S40. -/
import Derived.Test.YtlbdomhfcghjdaaP7
section
namespace GA
open Go Go.RowKit Go.Proofs
set_option pp.deepTerms true
set_option maxRecDepth 8000
set_option linter.unusedVariables false
set_option linter.unusedSimpArgs false

/-- What Fewest says of a right load. -/
def fewA (l : Ld) : AV := if 9 < manyD (openD l) then .tup [.sl true [], .int .i64 0, .int .i64 6] else .tup [.sl false (nats (loadI (openD l) (manyD (openD l)) (manyD (openD l))).out), natA (manyD (openD l)), .int .i64 0]
theorem few_c (l : Ld) (o : LdOk l) (w : LdW l) : Comp Try.prog 18 [ldA l] (fewA l) := by
  have h := fewest_c l w.w w.h1 w.h2 w.h3
  unfold fewestR fewestD at h
  rw [if_pos ((checkR_ok l).2 o)] at h
  exact h
theorem few_no (l : Ld) (o : LdOk l) (w : LdW l) (h : 9 < manyD (openD l)) : Comp Try.prog 18 [ldA l] (.tup [.sl true [], .int .i64 0, .int .i64 6]) := by
  have e := few_c l o w; unfold fewA at e; rwa [if_pos h] at e
theorem few_is (l : Ld) (o : LdOk l) (w : LdW l) (h : ¬ 9 < manyD (openD l)) : ∃ out : List Nat, Comp Try.prog 18 [ldA l] (.tup [.sl false (nats out), natA (manyD (openD l)), .int .i64 0]) := by
  have e := few_c l o w; unfold fewA at e; rw [if_neg h] at e; exact ⟨_, e⟩
theorem wshrink {m s s' : Int} (h0 : 0 ≤ m) (h : s ≤ s') : m - m * s' / 100 ≤ m - m * s / 100 := by
  have h1 : m * s ≤ m * s' := Int.mul_le_mul_of_nonneg_left h h0
  have := Int.ediv_le_ediv (show (0 : Int) < 100 by decide) h1
  omega
theorem RightP.bears {l : Ld} {b : Int} (hb : l.bears ≤ b) {c : Nat} (h : RightP l c) : RightP { l with bears := b } c :=
  ⟨by have := h.w; show (sumW (wts l) c : Int) ≤ b; omega, h.wp, h.ap⟩
theorem RightP.shrink {l : Ld} (o : LdOk l) {s : Int} (hs : l.shrink ≤ s) {c : Nat} (h : RightP l c) : RightP { l with shrink := s } c :=
  ⟨by
    have h1 := h.w
    have h2 := sumW_le_of (wts { l with shrink := s }) (wts l) c (by simp [wts]) (fun i => by
      simp only [wts, List.getD_eq_getElem?_getD, List.getElem?_map]
      cases e : l.sacks[i]? with
      | none => simp
      | some x =>
        simp only [Option.map_some, Option.getD_some]
        have hx := o.sk x (List.mem_of_getElem? e)
        unfold wt weightR
        have := wshrink (m := x.m) (by omega) hs
        dsimp only; omega)
    show (sumW (wts { l with shrink := s }) c : Int) ≤ l.bears
    omega, h.wp, h.ap⟩
def freeL (l : Ld) : Ld := ⟨l.bears, l.shrink, false, l.sacks, true, [], true, []⟩
theorem freeL_ok {l : Ld} (o : LdOk l) : LdOk (freeL l) where
  n := o.n
  na := Nat.zero_le _
  nw := Nat.zero_le _
  b1 := o.b1
  b2 := o.b2
  s1 := o.s1
  s2 := o.s2
  sk := o.sk
  ap := fun p hp => by simp [freeL] at hp
  wp := fun p hp => by simp [freeL] at hp
theorem RightP.toFree {l : Ld} {c : Nat} (h : RightP l c) : RightP (freeL l) c := (RightP.free rfl rfl).2 h.w
def tailL (l : Ld) (rest : List Sk) : Ld := ⟨l.bears, l.shrink, false, rest, false, [], false, []⟩
set_option maxHeartbeats 1000000 in
theorem sackWashed_c (n1 : Bool) (xs : List Int) (m : Int) (hx : xs.length < 9223372036854775808) (hm : 0 ≤ m ∧ m ≤ 255) :
    Comp Try.prog 3 [.sl n1 (bytes xs), .int .u8 m] (.bool true) := by
  have mo := made_c (hp0 n1 xs) 8 4 (hp0_ok hx) (by omega) (by omega) (by omega) (by omega)
  have lo := madeL_ok (hp0 n1 xs) 8 4 (by omega) (by omega) (by omega) (by omega) (hp0_ok hx)
  have lw : LdW (madeL (hp0 n1 xs) 8 4) := ldW lo (fun h => by simpa [madeL] using h)
  generalize madeL (hp0 n1 xs) 8 4 = l at mo lo lw
  generalize madeH (hp0 n1 xs) 8 4 = u1 at mo
  have hm3 : 0 ≤ m.tmod 30 ∧ m.tmod 30 ≤ 29 := by rw [Int.tmod_eq_emod_of_nonneg hm.1]; omega
  refine Comp.body' (T := tab) (res := [.tmp 4]) tab_ok [] Try.func3 rfl (by kernel_rfl) Try.ntmps3 rfl (by simp only [List.length_cons, List.length_nil]; decide) (by simp only [lowL, AV.low, lowBy]; rfl) ?_; conv => whnf
  by_cases h10 : 9 < manyD (openD l)
  · have hf := few_no l lo lw h10
    repeat' first
        | ((with_reducible apply XBr.tt); conv => whnf)
        | ((with_reducible apply XBr.ff); conv => whnf)
        | (with_reducible apply XBr.not)
        | ((with_reducible apply XBr.dec) <;> (intro h; first | (exfalso; omega) | ((try simp only [List.length_map] at h); first | (exfalso; omega) | (conv => whnf))))
        | ((with_reducible apply XBr.beq) <;> (intro h; first | (exfalso; omega) | (conv => whnf)))
        | ((with_reducible apply XBr.bne) <;> (intro h; first | (exfalso; omega) | (conv => whnf)))
        | ((with_reducible refine XInt.i64 (by omega) (by omega) ?_); conv => whnf)
        | ((with_reducible refine XHold.mk ?_ ?_); (first | omega | rfl | decide | exact ⟨rfl, by decide, rfl⟩ | exact wideI _ | exact widePr _ | exact wideSk _ | (unfold Room; constructor <;> ((try simp) <;> omega)) | exact ⟨rfl, by simp only [List.length_map], by unfold Room; constructor <;> ((try simp) <;> omega)⟩ | exact ⟨by omega, by omega, by unfold Room; constructor <;> ((try simp) <;> omega)⟩); conv => whnf)
        | ((with_reducible refine XIx.nat ?_ ?_ ?_); omega; (intro _; rfl); conv => whnf)
        | ((with_reducible refine XIx.map ?_ ?_ ?_ ?_); omega; omega; (intro _; rfl); conv => whnf)
        | (with_reducible apply XAnd.mk)
        | ((with_reducible apply Chk.go); conv => whnf)
        | ((with_reducible apply ChkA.go); conv => whnf)
        | ((with_reducible apply ChkF.go); conv => whnf)
        | ((with_reducible apply ChkB.go); conv => whnf)
        | (exact XSame.mk rfl rfl)
        | (exact XSame.mk (by first | rfl | (simp only [List.map_append, List.length_append, List.length_map]; done) | (simp only [List.map_append, List.length_append, List.length_map]; rfl)) (by first | rfl | (simp only [List.map_append]; done) | (simp only [List.map_append]; rfl)))
        | (with_reducible exact trivial)
        | ((with_reducible refine xdrop_app (by rw [List.length_map]; omega) ?_); conv => whnf)
        | ((with_reducible refine XArr.ints (by omega) (by omega) (by omega) ?_); conv => whnf)
        | ((with_reducible refine XArr.intsA (by omega) (by omega) (by omega) ?_); conv => whnf)
        | ((with_reducible refine XArr.nats ?_ ?_ ?_); omega; omega; conv => whnf)
        | ((with_reducible refine XArr.natsA ?_ ?_ ?_); omega; omega; conv => whnf)
        | ((with_reducible apply XArr.pim0); conv => whnf)
        | ((with_reducible apply XArr.pim1); conv => whnf)
        | ((with_reducible refine XArr.ptr ?_ ?_ ?_); omega; omega; conv => whnf)
        | (refine XCall.inl (T := tab) (res := [.tmp 2]) tab_ok [5] Try.func17 rfl (by kernel_rfl) Try.ntmps17 rfl (by simp only [List.length_append, List.length_cons, List.length_nil]; decide) ?_; conv => whnf)
        | ((refine XCall.hp (j := 0) mo (ldL l) rfl ?_); conv => whnf)
        | ((refine XCall.ret hf ?_); conv => whnf)
        | ((refine XCall.ret awake_c ?_); conv => whnf)
        | ((with_reducible apply XBr.mk') <;> (intro h; conv => whnf))
    exact XOut.bool rfl
  · obtain ⟨out, hf⟩ := few_is l lo lw h10
    have b1 := lo.b1
    have b2 := lo.b2
    have s1 := lo.s1
    have s2 := lo.s2
    let big : Ld := ⟨min 100 (l.bears + m.tmod 30), l.shrink, false, l.sacks, false, l.apart, false, l.wth⟩
    let dry : Ld := ⟨l.bears, min 90 (l.shrink + m.tmod 30), false, l.sacks, false, l.apart, false, l.wth⟩
    have ob : LdOk big := ⟨lo.n, lo.na, lo.nw, by show 1 ≤ min 100 (l.bears + m.tmod 30); omega, by show min 100 (l.bears + m.tmod 30) ≤ 100; omega, lo.s1, lo.s2, lo.sk, lo.ap, lo.wp⟩
    have od : LdOk dry := ⟨lo.n, lo.na, lo.nw, lo.b1, lo.b2, by show 0 ≤ min 90 (l.shrink + m.tmod 30); omega, by show min 90 (l.shrink + m.tmod 30) ≤ 90; omega, lo.sk, lo.ap, lo.wp⟩
    have ofr := freeL_ok lo
    have wb : LdW big := ldW ob (fun h => by cases h)
    have wd : LdW dry := ldW od (fun h => by cases h)
    have wf : LdW (freeL l) := ldW ofr (fun _ => rfl)
    have kb : manyD (openD big) ≤ manyD (openD l) := many_le lo ob rfl fun c _ h => by
      have := RightP.bears (b := min 100 (l.bears + m.tmod 30)) (by omega) h
      exact ⟨this.w, this.wp, this.ap⟩
    have kd : manyD (openD dry) ≤ manyD (openD l) := many_le lo od rfl fun c _ h => by
      have := RightP.shrink lo (s := min 90 (l.shrink + m.tmod 30)) (by omega) h
      exact ⟨this.w, this.wp, this.ap⟩
    have kf : manyD (openD (freeL l)) ≤ manyD (openD l) := many_le lo ofr rfl fun c _ h => h.toFree
    obtain ⟨o1, hb⟩ := few_is big ob wb (by omega)
    obtain ⟨o2, hd⟩ := few_is dry od wd (by omega)
    obtain ⟨o3, hfr⟩ := few_is (freeL l) ofr wf (by omega)
    have hlen := many_len lo (by omega)
    have how := own_c l lw
    have howf := own_c (freeL l) wf
    have ht : ∀ s rest, l.sacks = s :: rest → ∃ o4, Comp Try.prog 18 [.agg [.int .i64 l.bears, .int .i64 l.shrink, .sl false (((l.sacks.map skA).drop (1 : Int).toNat).take (((l.sacks.map skA).length : Int) - 1).toNat), .sl false [], .sl false []]] (.tup [.sl false (nats o4), natA (manyD (openD (tailL l rest))), .int .i64 0]) ∧
        manyD (openD (tailL l rest)) ≤ manyD (openD (freeL l)) ∧ manyD (openD (freeL l)) ≤ manyD (openD (tailL l rest)) + 1 := by
      intro s rest hs
      have ot : LdOk (tailL l rest) := ⟨by have := lo.n; rw [hs] at this; show rest.length ≤ 9; simp at this; omega, Nat.zero_le _, Nat.zero_le _, lo.b1, lo.b2, lo.s1, lo.s2, fun x hx => lo.sk x (by rw [hs]; exact List.mem_cons_of_mem _ hx), fun p hp => by simp [tailL] at hp, fun p hp => by simp [tailL] at hp⟩
      have hk := many_tail (l := freeL l) (u := tailL l rest) ofr ot rfl rfl rfl rfl rfl (s := s) hs rfl (by omega)
      obtain ⟨o4, h4⟩ := few_is (tailL l rest) ot (ldW ot (fun h => by cases h)) (by omega)
      refine ⟨o4, ?_, hk⟩
      have e : (((l.sacks.map skA).drop (1 : Int).toNat).take (((l.sacks.map skA).length : Int) - 1).toNat) = rest.map skA := by rw [hs]; simp [List.take_of_length_le]
      rw [e]; exact h4
    have hdb : ldA big = .agg [.int .i64 (min 100 (l.bears + m.tmod 30)), .int .i64 l.shrink, .sl false (l.sacks.map skA), .sl false (l.apart.map prA), .sl false (l.wth.map prA)] := rfl
    have hdd : ldA dry = .agg [.int .i64 l.bears, .int .i64 (min 90 (l.shrink + m.tmod 30)), .sl false (l.sacks.map skA), .sl false (l.apart.map prA), .sl false (l.wth.map prA)] := rfl
    have hdf : ldA (freeL l) = .agg [.int .i64 l.bears, .int .i64 l.shrink, .sl false (l.sacks.map skA), .sl true [], .sl true []] := rfl
    have hdo : ldA (ownL l) = .agg [.int .i64 l.bears, .int .i64 l.shrink, .sl false (l.sacks.map skA), .sl false (l.apart.map prA), .sl false (l.wth.map prA)] := rfl
    have hdof : ldA (ownL (freeL l)) = .agg [.int .i64 l.bears, .int .i64 l.shrink, .sl false (l.sacks.map skA), .sl false [], .sl false []] := rfl
    rw [hdb] at hb
    rw [hdd] at hd
    rw [hdf] at hfr howf
    rw [hdo] at how
    rw [hdof] at howf
    clear_value big dry
    clear hdb hdd hdf hdo hdof ob od ofr wb wd wf
    generalize manyD (openD l) = N at *
    generalize manyD (openD big) = K1 at *
    generalize manyD (openD dry) = K2 at *
    generalize manyD (openD (freeL l)) = K3 at *
    clear big dry
    have hsl : ((l.sacks.map skA).length : Int) = l.sacks.length := by rw [List.length_map]
    repeat' first
        | ((with_reducible apply XBr.tt); conv => whnf)
        | ((with_reducible apply XBr.ff); conv => whnf)
        | (with_reducible apply XBr.not)
        | ((with_reducible apply XBr.dec) <;> (intro h; first | (exfalso; omega) | ((try simp only [List.length_map] at h); first | (exfalso; omega) | (conv => whnf))))
        | ((with_reducible apply XBr.beq) <;> (intro h; first | (exfalso; omega) | (conv => whnf)))
        | ((with_reducible apply XBr.bne) <;> (intro h; first | (exfalso; omega) | (conv => whnf)))
        | ((with_reducible refine XInt.i64 (by omega) (by omega) ?_); conv => whnf)
        | ((with_reducible refine XHold.mk ?_ ?_); (first | omega | rfl | decide | exact ⟨rfl, by decide, rfl⟩ | exact wideI _ | exact widePr _ | exact wideSk _ | (unfold Room; constructor <;> ((try simp) <;> omega)) | exact ⟨rfl, by simp only [List.length_map], by unfold Room; constructor <;> ((try simp) <;> omega)⟩ | exact ⟨by omega, by omega, by unfold Room; constructor <;> ((try simp) <;> omega)⟩); conv => whnf)
        | ((with_reducible refine XIx.nat ?_ ?_ ?_); omega; (intro _; rfl); conv => whnf)
        | ((with_reducible refine XIx.map ?_ ?_ ?_ ?_); omega; omega; (intro _; rfl); conv => whnf)
        | (with_reducible apply XAnd.mk)
        | ((with_reducible apply Chk.go); conv => whnf)
        | ((with_reducible apply ChkA.go); conv => whnf)
        | ((with_reducible apply ChkF.go); conv => whnf)
        | ((with_reducible apply ChkB.go); conv => whnf)
        | (exact XSame.mk rfl rfl)
        | (exact XSame.mk (by first | rfl | (simp only [List.map_append, List.length_append, List.length_map]; done) | (simp only [List.map_append, List.length_append, List.length_map]; rfl)) (by first | rfl | (simp only [List.map_append]; done) | (simp only [List.map_append]; rfl)))
        | (with_reducible exact trivial)
        | ((with_reducible refine xdrop_app (by rw [List.length_map]; omega) ?_); conv => whnf)
        | ((with_reducible refine XArr.ints (by omega) (by omega) (by omega) ?_); conv => whnf)
        | ((with_reducible refine XArr.intsA (by omega) (by omega) (by omega) ?_); conv => whnf)
        | ((with_reducible refine XArr.nats ?_ ?_ ?_); omega; omega; conv => whnf)
        | ((with_reducible refine XArr.natsA ?_ ?_ ?_); omega; omega; conv => whnf)
        | ((with_reducible apply XArr.pim0); conv => whnf)
        | ((with_reducible apply XArr.pim1); conv => whnf)
        | ((with_reducible refine XArr.ptr ?_ ?_ ?_); omega; omega; conv => whnf)
        | (refine XCall.inl (T := tab) (res := [.tmp 2]) tab_ok [5] Try.func17 rfl (by kernel_rfl) Try.ntmps17 rfl (by simp only [List.length_append, List.length_cons, List.length_nil]; decide) ?_; conv => whnf)
        | ((refine XCall.hp (j := 0) mo (ldL l) rfl ?_); conv => whnf)
        | ((refine XCall.ret hf ?_); conv => whnf)
        | ((with_reducible apply XBr.mk') <;> (intro h; conv => whnf))
    refine Walk.place (Walk.place (Walk.place ?_))
    apply Walk.drawX tab_ok mixed_ok [] [6, 7, 8, 9, 10, 11] (fun fl => match fl with
      | [a, b, c, x, y, z] => [hpC u1, .cells (ldC l), (bif a then .cells (bif x then ldC (ownL l) else [.int .i64 0, .int .i64 0, .sl true [], .sl true [], .sl true []]) else .free),
          (bif b then .cells (bif y then ldC (ownL l) else [.int .i64 0, .int .i64 0, .sl true [], .sl true [], .sl true []]) else .free), (bif c then .cells (bif z then ldC (ownL l) else [.int .i64 0, .int .i64 0, .sl true [], .sl true [], .sl true []]) else .free)]
      | _ => []) [_, _, _, _, _, _, .ptr 2 0, .ptr 3 0, .ptr 4 0, _, _, _] (by kernel_rfl) rfl
    · skip
      repeat' first
          | ((with_reducible apply XBr.tt); conv => whnf)
          | ((with_reducible apply XBr.ff); conv => whnf)
          | (with_reducible apply XBr.not)
          | ((with_reducible apply XBr.dec) <;> (intro h; first | (exfalso; omega) | ((try simp only [List.length_map] at h); first | (exfalso; omega) | (conv => whnf))))
          | ((with_reducible apply XBr.beq) <;> (intro h; first | (exfalso; omega) | (conv => whnf)))
          | ((with_reducible apply XBr.bne) <;> (intro h; first | (exfalso; omega) | (conv => whnf)))
          | ((with_reducible refine XInt.i64 (by omega) (by omega) ?_); conv => whnf)
          | ((with_reducible refine XHold.mk ?_ ?_); (first | omega | rfl | decide | exact ⟨rfl, by decide, rfl⟩ | exact wideI _ | exact widePr _ | exact wideSk _ | (unfold Room; constructor <;> ((try simp) <;> omega)) | exact ⟨rfl, by simp only [List.length_map], by unfold Room; constructor <;> ((try simp) <;> omega)⟩ | exact ⟨by omega, by omega, by unfold Room; constructor <;> ((try simp) <;> omega)⟩); conv => whnf)
          | ((with_reducible refine XIx.nat ?_ ?_ ?_); omega; (intro _; rfl); conv => whnf)
          | ((with_reducible refine XIx.map ?_ ?_ ?_ ?_); omega; omega; (intro _; rfl); conv => whnf)
          | (with_reducible apply XAnd.mk)
          | ((with_reducible apply Chk.go); conv => whnf)
          | ((with_reducible apply ChkA.go); conv => whnf)
          | ((with_reducible apply ChkF.go); conv => whnf)
          | ((with_reducible apply ChkB.go); conv => whnf)
          | (exact XSame.mk rfl rfl)
          | (exact XSame.mk (by first | rfl | (simp only [List.map_append, List.length_append, List.length_map]; done) | (simp only [List.map_append, List.length_append, List.length_map]; rfl)) (by first | rfl | (simp only [List.map_append]; done) | (simp only [List.map_append]; rfl)))
          | (with_reducible exact trivial)
          | ((with_reducible refine xdrop_app (by rw [List.length_map]; omega) ?_); conv => whnf)
          | ((with_reducible refine XArr.ints (by omega) (by omega) (by omega) ?_); conv => whnf)
          | ((with_reducible refine XArr.intsA (by omega) (by omega) (by omega) ?_); conv => whnf)
          | ((with_reducible refine XArr.nats ?_ ?_ ?_); omega; omega; conv => whnf)
          | ((with_reducible refine XArr.natsA ?_ ?_ ?_); omega; omega; conv => whnf)
          | ((with_reducible apply XArr.pim0); conv => whnf)
          | ((with_reducible apply XArr.pim1); conv => whnf)
          | ((with_reducible refine XArr.ptr ?_ ?_ ?_); omega; omega; conv => whnf)
          | ((refine XCall.ret how ?_); conv => whnf)
          | (first | ((refine XFree.at 2 rfl ?_); (conv => whnf); exact XSame.mk rfl rfl) | ((refine XFree.at 3 rfl ?_); (conv => whnf); exact XSame.mk rfl rfl) | ((refine XFree.at 4 rfl ?_); (conv => whnf); exact XSame.mk rfl rfl))
          | ((with_reducible apply XBr.mk') <;> (intro h; conv => whnf))
    · skip
      repeat' first
          | ((with_reducible apply XBr.tt); conv => whnf)
          | ((with_reducible apply XBr.ff); conv => whnf)
          | (with_reducible apply XBr.not)
          | ((with_reducible apply XBr.dec) <;> (intro h; first | (exfalso; omega) | ((try simp only [List.length_map] at h); first | (exfalso; omega) | (conv => whnf))))
          | ((with_reducible apply XBr.beq) <;> (intro h; first | (exfalso; omega) | (conv => whnf)))
          | ((with_reducible apply XBr.bne) <;> (intro h; first | (exfalso; omega) | (conv => whnf)))
          | ((with_reducible refine XInt.i64 (by omega) (by omega) ?_); conv => whnf)
          | ((with_reducible refine XHold.mk ?_ ?_); (first | omega | rfl | decide | exact ⟨rfl, by decide, rfl⟩ | exact wideI _ | exact widePr _ | exact wideSk _ | (unfold Room; constructor <;> ((try simp) <;> omega)) | exact ⟨rfl, by simp only [List.length_map], by unfold Room; constructor <;> ((try simp) <;> omega)⟩ | exact ⟨by omega, by omega, by unfold Room; constructor <;> ((try simp) <;> omega)⟩); conv => whnf)
          | ((with_reducible refine XIx.nat ?_ ?_ ?_); omega; (intro _; rfl); conv => whnf)
          | ((with_reducible refine XIx.map ?_ ?_ ?_ ?_); omega; omega; (intro _; rfl); conv => whnf)
          | (with_reducible apply XAnd.mk)
          | ((with_reducible apply Chk.go); conv => whnf)
          | ((with_reducible apply ChkA.go); conv => whnf)
          | ((with_reducible apply ChkF.go); conv => whnf)
          | ((with_reducible apply ChkB.go); conv => whnf)
          | (exact XSame.mk rfl rfl)
          | (exact XSame.mk (by first | rfl | (simp only [List.map_append, List.length_append, List.length_map]; done) | (simp only [List.map_append, List.length_append, List.length_map]; rfl)) (by first | rfl | (simp only [List.map_append]; done) | (simp only [List.map_append]; rfl)))
          | (with_reducible exact trivial)
          | ((with_reducible refine xdrop_app (by rw [List.length_map]; omega) ?_); conv => whnf)
          | ((with_reducible refine XArr.ints (by omega) (by omega) (by omega) ?_); conv => whnf)
          | ((with_reducible refine XArr.intsA (by omega) (by omega) (by omega) ?_); conv => whnf)
          | ((with_reducible refine XArr.nats ?_ ?_ ?_); omega; omega; conv => whnf)
          | ((with_reducible refine XArr.natsA ?_ ?_ ?_); omega; omega; conv => whnf)
          | ((with_reducible apply XArr.pim0); conv => whnf)
          | ((with_reducible apply XArr.pim1); conv => whnf)
          | ((with_reducible refine XArr.ptr ?_ ?_ ?_); omega; omega; conv => whnf)
          | ((refine XCall.ret how ?_); conv => whnf)
          | (first | ((refine XFree.at 2 rfl ?_); (conv => whnf); exact XSame.mk rfl rfl) | ((refine XFree.at 3 rfl ?_); (conv => whnf); exact XSame.mk rfl rfl) | ((refine XFree.at 4 rfl ?_); (conv => whnf); exact XSame.mk rfl rfl))
          | ((with_reducible apply XBr.mk') <;> (intro h; conv => whnf))
    · conv => whnf
      repeat' first
          | ((with_reducible apply XBr.tt); conv => whnf)
          | ((with_reducible apply XBr.ff); conv => whnf)
          | (with_reducible apply XBr.not)
          | ((with_reducible apply XBr.dec) <;> (intro h; first | (exfalso; omega) | ((try simp only [List.length_map] at h); first | (exfalso; omega) | (conv => whnf))))
          | ((with_reducible apply XBr.beq) <;> (intro h; first | (exfalso; omega) | (conv => whnf)))
          | ((with_reducible apply XBr.bne) <;> (intro h; first | (exfalso; omega) | (conv => whnf)))
          | ((with_reducible refine XInt.i64 (by omega) (by omega) ?_); conv => whnf)
          | ((with_reducible refine XHold.mk ?_ ?_); (first | omega | rfl | decide | exact ⟨rfl, by decide, rfl⟩ | exact wideI _ | exact widePr _ | exact wideSk _ | (unfold Room; constructor <;> ((try simp) <;> omega)) | exact ⟨rfl, by simp only [List.length_map], by unfold Room; constructor <;> ((try simp) <;> omega)⟩ | exact ⟨by omega, by omega, by unfold Room; constructor <;> ((try simp) <;> omega)⟩); conv => whnf)
          | ((with_reducible refine XIx.nat ?_ ?_ ?_); omega; (intro _; rfl); conv => whnf)
          | ((with_reducible refine XIx.map ?_ ?_ ?_ ?_); omega; omega; (intro _; rfl); conv => whnf)
          | (with_reducible apply XAnd.mk)
          | ((with_reducible apply Chk.go); conv => whnf)
          | ((with_reducible apply ChkA.go); conv => whnf)
          | ((with_reducible apply ChkF.go); conv => whnf)
          | ((with_reducible apply ChkB.go); conv => whnf)
          | (exact XSame.mk rfl rfl)
          | (exact XSame.mk (by first | rfl | (simp only [List.map_append, List.length_append, List.length_map]; done) | (simp only [List.map_append, List.length_append, List.length_map]; rfl)) (by first | rfl | (simp only [List.map_append]; done) | (simp only [List.map_append]; rfl)))
          | (with_reducible exact trivial)
          | ((with_reducible refine xdrop_app (by rw [List.length_map]; omega) ?_); conv => whnf)
          | ((with_reducible refine XArr.ints (by omega) (by omega) (by omega) ?_); conv => whnf)
          | ((with_reducible refine XArr.intsA (by omega) (by omega) (by omega) ?_); conv => whnf)
          | ((with_reducible refine XArr.nats ?_ ?_ ?_); omega; omega; conv => whnf)
          | ((with_reducible refine XArr.natsA ?_ ?_ ?_); omega; omega; conv => whnf)
          | ((with_reducible apply XArr.pim0); conv => whnf)
          | ((with_reducible apply XArr.pim1); conv => whnf)
          | ((with_reducible refine XArr.ptr ?_ ?_ ?_); omega; omega; conv => whnf)
          | ((with_reducible apply XBr.mk') <;> (intro h; conv => whnf))
      let cb : List AV := [.int .i64 (min 100 (l.bears + m.tmod 30)), .int .i64 l.shrink, .sl false (l.sacks.map skA), .sl false (l.apart.map prA), .sl false (l.wth.map prA)]
      let cd : List AV := [.int .i64 l.bears, .int .i64 (min 90 (l.shrink + m.tmod 30)), .sl false (l.sacks.map skA), .sl false (l.apart.map prA), .sl false (l.wth.map prA)]
      let cf : List AV := [.int .i64 l.bears, .int .i64 l.shrink, .sl false (l.sacks.map skA), .sl true [], .sl true []]
      refine Walk.loopG tab_ok [] (fun k : Nat => k ≤ 3) (fun k => [(5, .ptr 1 0), (7, natA N), (11, .ptr 4 0), (66, .sl false [.agg cb, .agg cd, .agg cf]), (67, .int .i64 3), (68, natA k)])
        (fun _ => [hpC u1, .cells (ldC l), .cells cb, .cells cd, .cells cf]) (fun k => 3 - k) 0 (by omega) rfl ⟨rfl, rfl, rfl, rfl, rfl, rfl, trivial⟩ ?_ ?_ ?_
      · intro k _
        have hcb : ∀ n, lowL n cb = true := fun n => by simp only [cb, lowL, AV.low, lowSk, lowPr]; rfl
        have hcd : ∀ n, lowL n cd = true := fun n => by simp only [cd, lowL, AV.low, lowSk, lowPr]; rfl
        have hcf : ∀ n, lowL n cf = true := fun n => by simp only [cf, lowL, AV.low, lowSk]; rfl
        constructor
        · intro x hx; simp only [List.mem_cons, List.not_mem_nil, or_false] at hx
          rcases hx with rfl | rfl | rfl | rfl | rfl <;> first | exact hpC_low _ | exact lowLd _ | exact hcb _ | exact hcd _ | exact hcf _
        · intro p hp; simp only [List.mem_cons, List.not_mem_nil, or_false] at hp; rcases hp with rfl | rfl | rfl | rfl | rfl | rfl <;> first | rfl | (simp only [AV.low, lowL, hcb, hcd, hcf]; rfl)
      · intro k _; exact Nat.le_refl _
      intro k hk
      obtain rfl | rfl | rfl | rfl : k = 0 ∨ k = 1 ∨ k = 2 ∨ k = 3 := by omega
      · conv => whnf
        repeat' first
            | ((with_reducible apply XBr.tt); conv => whnf)
            | ((with_reducible apply XBr.ff); conv => whnf)
            | (with_reducible apply XBr.not)
            | ((with_reducible apply XBr.dec) <;> (intro h; first | (exfalso; omega) | ((try simp only [List.length_map] at h); first | (exfalso; omega) | (conv => whnf))))
            | ((with_reducible apply XBr.beq) <;> (intro h; first | (exfalso; omega) | (conv => whnf)))
            | ((with_reducible apply XBr.bne) <;> (intro h; first | (exfalso; omega) | (conv => whnf)))
            | ((with_reducible refine XInt.i64 (by omega) (by omega) ?_); conv => whnf)
            | ((with_reducible refine XHold.mk ?_ ?_); (first | omega | rfl | decide | exact ⟨rfl, by decide, rfl⟩ | exact wideI _ | exact widePr _ | exact wideSk _ | (unfold Room; constructor <;> ((try simp) <;> omega)) | exact ⟨rfl, by simp only [List.length_map], by unfold Room; constructor <;> ((try simp) <;> omega)⟩ | exact ⟨by omega, by omega, by unfold Room; constructor <;> ((try simp) <;> omega)⟩); conv => whnf)
            | ((with_reducible refine XIx.nat ?_ ?_ ?_); omega; (intro _; rfl); conv => whnf)
            | ((with_reducible refine XIx.map ?_ ?_ ?_ ?_); omega; omega; (intro _; rfl); conv => whnf)
            | (with_reducible apply XAnd.mk)
            | ((with_reducible apply Chk.go); conv => whnf)
            | ((with_reducible apply ChkA.go); conv => whnf)
            | ((with_reducible apply ChkF.go); conv => whnf)
            | ((with_reducible apply ChkB.go); conv => whnf)
            | (exact XSame.mk rfl rfl)
            | (exact XSame.mk (by first | rfl | (simp only [List.map_append, List.length_append, List.length_map]; done) | (simp only [List.map_append, List.length_append, List.length_map]; rfl)) (by first | rfl | (simp only [List.map_append]; done) | (simp only [List.map_append]; rfl)))
            | (with_reducible exact trivial)
            | ((with_reducible refine xdrop_app (by rw [List.length_map]; omega) ?_); conv => whnf)
            | ((with_reducible refine XArr.ints (by omega) (by omega) (by omega) ?_); conv => whnf)
            | ((with_reducible refine XArr.intsA (by omega) (by omega) (by omega) ?_); conv => whnf)
            | ((with_reducible refine XArr.nats ?_ ?_ ?_); omega; omega; conv => whnf)
            | ((with_reducible refine XArr.natsA ?_ ?_ ?_); omega; omega; conv => whnf)
            | ((with_reducible apply XArr.pim0); conv => whnf)
            | ((with_reducible apply XArr.pim1); conv => whnf)
            | ((with_reducible refine XArr.ptr ?_ ?_ ?_); omega; omega; conv => whnf)
            | ((refine XIx.mk (by decide) (by simp) rfl ?_); conv => whnf)
            | ((refine XCall.ret hb ?_); conv => whnf)
            | ((with_reducible apply XBr.mk') <;> (intro h; conv => whnf))
        exact XAgainG.go (0 + 1) [.cells cb] (by omega) (by omega) rfl ⟨rfl, rfl, rfl, rfl, rfl, rfl, trivial⟩
      · conv => whnf
        repeat' first
            | ((with_reducible apply XBr.tt); conv => whnf)
            | ((with_reducible apply XBr.ff); conv => whnf)
            | (with_reducible apply XBr.not)
            | ((with_reducible apply XBr.dec) <;> (intro h; first | (exfalso; omega) | ((try simp only [List.length_map] at h); first | (exfalso; omega) | (conv => whnf))))
            | ((with_reducible apply XBr.beq) <;> (intro h; first | (exfalso; omega) | (conv => whnf)))
            | ((with_reducible apply XBr.bne) <;> (intro h; first | (exfalso; omega) | (conv => whnf)))
            | ((with_reducible refine XInt.i64 (by omega) (by omega) ?_); conv => whnf)
            | ((with_reducible refine XHold.mk ?_ ?_); (first | omega | rfl | decide | exact ⟨rfl, by decide, rfl⟩ | exact wideI _ | exact widePr _ | exact wideSk _ | (unfold Room; constructor <;> ((try simp) <;> omega)) | exact ⟨rfl, by simp only [List.length_map], by unfold Room; constructor <;> ((try simp) <;> omega)⟩ | exact ⟨by omega, by omega, by unfold Room; constructor <;> ((try simp) <;> omega)⟩); conv => whnf)
            | ((with_reducible refine XIx.nat ?_ ?_ ?_); omega; (intro _; rfl); conv => whnf)
            | ((with_reducible refine XIx.map ?_ ?_ ?_ ?_); omega; omega; (intro _; rfl); conv => whnf)
            | (with_reducible apply XAnd.mk)
            | ((with_reducible apply Chk.go); conv => whnf)
            | ((with_reducible apply ChkA.go); conv => whnf)
            | ((with_reducible apply ChkF.go); conv => whnf)
            | ((with_reducible apply ChkB.go); conv => whnf)
            | (exact XSame.mk rfl rfl)
            | (exact XSame.mk (by first | rfl | (simp only [List.map_append, List.length_append, List.length_map]; done) | (simp only [List.map_append, List.length_append, List.length_map]; rfl)) (by first | rfl | (simp only [List.map_append]; done) | (simp only [List.map_append]; rfl)))
            | (with_reducible exact trivial)
            | ((with_reducible refine xdrop_app (by rw [List.length_map]; omega) ?_); conv => whnf)
            | ((with_reducible refine XArr.ints (by omega) (by omega) (by omega) ?_); conv => whnf)
            | ((with_reducible refine XArr.intsA (by omega) (by omega) (by omega) ?_); conv => whnf)
            | ((with_reducible refine XArr.nats ?_ ?_ ?_); omega; omega; conv => whnf)
            | ((with_reducible refine XArr.natsA ?_ ?_ ?_); omega; omega; conv => whnf)
            | ((with_reducible apply XArr.pim0); conv => whnf)
            | ((with_reducible apply XArr.pim1); conv => whnf)
            | ((with_reducible refine XArr.ptr ?_ ?_ ?_); omega; omega; conv => whnf)
            | ((refine XIx.mk (by decide) (by simp) rfl ?_); conv => whnf)
            | ((refine XCall.ret hd ?_); conv => whnf)
            | ((with_reducible apply XBr.mk') <;> (intro h; conv => whnf))
        exact XAgainG.go (1 + 1) [.cells cd] (by omega) (by omega) rfl ⟨rfl, rfl, rfl, rfl, rfl, rfl, trivial⟩
      · conv => whnf
        repeat' first
            | ((with_reducible apply XBr.tt); conv => whnf)
            | ((with_reducible apply XBr.ff); conv => whnf)
            | (with_reducible apply XBr.not)
            | ((with_reducible apply XBr.dec) <;> (intro h; first | (exfalso; omega) | ((try simp only [List.length_map] at h); first | (exfalso; omega) | (conv => whnf))))
            | ((with_reducible apply XBr.beq) <;> (intro h; first | (exfalso; omega) | (conv => whnf)))
            | ((with_reducible apply XBr.bne) <;> (intro h; first | (exfalso; omega) | (conv => whnf)))
            | ((with_reducible refine XInt.i64 (by omega) (by omega) ?_); conv => whnf)
            | ((with_reducible refine XHold.mk ?_ ?_); (first | omega | rfl | decide | exact ⟨rfl, by decide, rfl⟩ | exact wideI _ | exact widePr _ | exact wideSk _ | (unfold Room; constructor <;> ((try simp) <;> omega)) | exact ⟨rfl, by simp only [List.length_map], by unfold Room; constructor <;> ((try simp) <;> omega)⟩ | exact ⟨by omega, by omega, by unfold Room; constructor <;> ((try simp) <;> omega)⟩); conv => whnf)
            | ((with_reducible refine XIx.nat ?_ ?_ ?_); omega; (intro _; rfl); conv => whnf)
            | ((with_reducible refine XIx.map ?_ ?_ ?_ ?_); omega; omega; (intro _; rfl); conv => whnf)
            | (with_reducible apply XAnd.mk)
            | ((with_reducible apply Chk.go); conv => whnf)
            | ((with_reducible apply ChkA.go); conv => whnf)
            | ((with_reducible apply ChkF.go); conv => whnf)
            | ((with_reducible apply ChkB.go); conv => whnf)
            | (exact XSame.mk rfl rfl)
            | (exact XSame.mk (by first | rfl | (simp only [List.map_append, List.length_append, List.length_map]; done) | (simp only [List.map_append, List.length_append, List.length_map]; rfl)) (by first | rfl | (simp only [List.map_append]; done) | (simp only [List.map_append]; rfl)))
            | (with_reducible exact trivial)
            | ((with_reducible refine xdrop_app (by rw [List.length_map]; omega) ?_); conv => whnf)
            | ((with_reducible refine XArr.ints (by omega) (by omega) (by omega) ?_); conv => whnf)
            | ((with_reducible refine XArr.intsA (by omega) (by omega) (by omega) ?_); conv => whnf)
            | ((with_reducible refine XArr.nats ?_ ?_ ?_); omega; omega; conv => whnf)
            | ((with_reducible refine XArr.natsA ?_ ?_ ?_); omega; omega; conv => whnf)
            | ((with_reducible apply XArr.pim0); conv => whnf)
            | ((with_reducible apply XArr.pim1); conv => whnf)
            | ((with_reducible refine XArr.ptr ?_ ?_ ?_); omega; omega; conv => whnf)
            | ((refine XIx.mk (by decide) (by simp) rfl ?_); conv => whnf)
            | ((refine XCall.ret hfr ?_); conv => whnf)
            | ((with_reducible apply XBr.mk') <;> (intro h; conv => whnf))
        exact XAgainG.go (2 + 1) [.cells cf] (by omega) (by omega) rfl ⟨rfl, rfl, rfl, rfl, rfl, rfl, trivial⟩
      · conv => whnf
        repeat' first
            | ((with_reducible apply XBr.tt); conv => whnf)
            | ((with_reducible apply XBr.ff); conv => whnf)
            | (with_reducible apply XBr.not)
            | ((with_reducible apply XBr.dec) <;> (intro h; first | (exfalso; omega) | ((try simp only [List.length_map] at h); first | (exfalso; omega) | (conv => whnf))))
            | ((with_reducible apply XBr.beq) <;> (intro h; first | (exfalso; omega) | (conv => whnf)))
            | ((with_reducible apply XBr.bne) <;> (intro h; first | (exfalso; omega) | (conv => whnf)))
            | ((with_reducible refine XInt.i64 (by omega) (by omega) ?_); conv => whnf)
            | ((with_reducible refine XHold.mk ?_ ?_); (first | omega | rfl | decide | exact ⟨rfl, by decide, rfl⟩ | exact wideI _ | exact widePr _ | exact wideSk _ | (unfold Room; constructor <;> ((try simp) <;> omega)) | exact ⟨rfl, by simp only [List.length_map], by unfold Room; constructor <;> ((try simp) <;> omega)⟩ | exact ⟨by omega, by omega, by unfold Room; constructor <;> ((try simp) <;> omega)⟩); conv => whnf)
            | ((with_reducible refine XIx.nat ?_ ?_ ?_); omega; (intro _; rfl); conv => whnf)
            | ((with_reducible refine XIx.map ?_ ?_ ?_ ?_); omega; omega; (intro _; rfl); conv => whnf)
            | (with_reducible apply XAnd.mk)
            | ((with_reducible apply Chk.go); conv => whnf)
            | ((with_reducible apply ChkA.go); conv => whnf)
            | ((with_reducible apply ChkF.go); conv => whnf)
            | ((with_reducible apply ChkB.go); conv => whnf)
            | (exact XSame.mk rfl rfl)
            | (exact XSame.mk (by first | rfl | (simp only [List.map_append, List.length_append, List.length_map]; done) | (simp only [List.map_append, List.length_append, List.length_map]; rfl)) (by first | rfl | (simp only [List.map_append]; done) | (simp only [List.map_append]; rfl)))
            | (with_reducible exact trivial)
            | ((with_reducible refine xdrop_app (by rw [List.length_map]; omega) ?_); conv => whnf)
            | ((with_reducible refine XArr.ints (by omega) (by omega) (by omega) ?_); conv => whnf)
            | ((with_reducible refine XArr.intsA (by omega) (by omega) (by omega) ?_); conv => whnf)
            | ((with_reducible refine XArr.nats ?_ ?_ ?_); omega; omega; conv => whnf)
            | ((with_reducible refine XArr.natsA ?_ ?_ ?_); omega; omega; conv => whnf)
            | ((with_reducible apply XArr.pim0); conv => whnf)
            | ((with_reducible apply XArr.pim1); conv => whnf)
            | ((with_reducible refine XArr.ptr ?_ ?_ ?_); omega; omega; conv => whnf)
            | ((refine XCall.ret awake_c ?_); conv => whnf)
            | ((with_reducible apply XBr.mk') <;> (intro h; conv => whnf))
        · exact XOut.bool rfl
        · have hex : ∃ s rest, l.sacks = s :: rest := by
            cases e : l.sacks with
            | nil => rw [e] at h; exact absurd rfl h
            | cons s rest => exact ⟨s, rest, rfl⟩
          obtain ⟨s, rest, hs⟩ := hex
          obtain ⟨o4, h4, k1, k2⟩ := ht s rest hs
          generalize manyD (openD (tailL l rest)) = K4 at h4 k1 k2
          repeat' first
              | ((with_reducible apply XBr.tt); conv => whnf)
              | ((with_reducible apply XBr.ff); conv => whnf)
              | (with_reducible apply XBr.not)
              | ((with_reducible apply XBr.dec) <;> (intro h; first | (exfalso; omega) | ((try simp only [List.length_map] at h); first | (exfalso; omega) | (conv => whnf))))
              | ((with_reducible apply XBr.beq) <;> (intro h; first | (exfalso; omega) | (conv => whnf)))
              | ((with_reducible apply XBr.bne) <;> (intro h; first | (exfalso; omega) | (conv => whnf)))
              | ((with_reducible refine XInt.i64 (by omega) (by omega) ?_); conv => whnf)
              | ((with_reducible refine XHold.mk ?_ ?_); (first | omega | rfl | decide | exact ⟨rfl, by decide, rfl⟩ | exact wideI _ | exact widePr _ | exact wideSk _ | (unfold Room; constructor <;> ((try simp) <;> omega)) | exact ⟨rfl, by simp only [List.length_map], by unfold Room; constructor <;> ((try simp) <;> omega)⟩ | exact ⟨by omega, by omega, by unfold Room; constructor <;> ((try simp) <;> omega)⟩); conv => whnf)
              | ((with_reducible refine XIx.nat ?_ ?_ ?_); omega; (intro _; rfl); conv => whnf)
              | ((with_reducible refine XIx.map ?_ ?_ ?_ ?_); omega; omega; (intro _; rfl); conv => whnf)
              | (with_reducible apply XAnd.mk)
              | ((with_reducible apply Chk.go); conv => whnf)
              | ((with_reducible apply ChkA.go); conv => whnf)
              | ((with_reducible apply ChkF.go); conv => whnf)
              | ((with_reducible apply ChkB.go); conv => whnf)
              | (exact XSame.mk rfl rfl)
              | (exact XSame.mk (by first | rfl | (simp only [List.map_append, List.length_append, List.length_map]; done) | (simp only [List.map_append, List.length_append, List.length_map]; rfl)) (by first | rfl | (simp only [List.map_append]; done) | (simp only [List.map_append]; rfl)))
              | (with_reducible exact trivial)
              | ((with_reducible refine xdrop_app (by rw [List.length_map]; omega) ?_); conv => whnf)
              | ((with_reducible refine XArr.ints (by omega) (by omega) (by omega) ?_); conv => whnf)
              | ((with_reducible refine XArr.intsA (by omega) (by omega) (by omega) ?_); conv => whnf)
              | ((with_reducible refine XArr.nats ?_ ?_ ?_); omega; omega; conv => whnf)
              | ((with_reducible refine XArr.natsA ?_ ?_ ?_); omega; omega; conv => whnf)
              | ((with_reducible apply XArr.pim0); conv => whnf)
              | ((with_reducible apply XArr.pim1); conv => whnf)
              | ((with_reducible refine XArr.ptr ?_ ?_ ?_); omega; omega; conv => whnf)
              | ((refine XCall.ret howf ?_); conv => whnf)
              | ((refine XHold.mk ⟨by omega, by omega, by omega, .inr (wideSk _)⟩ ?_); conv => whnf)
              | ((refine XCall.ret h4 ?_); conv => whnf)
              | ((refine XCall.ret hfr ?_); conv => whnf)
              | ((refine XCall.ret awake_c ?_); conv => whnf)
              | ((with_reducible apply XBr.mk') <;> (intro h; conv => whnf))
          refine Walk.norm tab_ok [] [(5, .ptr 1 0), (7, natA N), (8, .int .i64 0), (19, natA K4), (21, natA K3), (22, .int .i64 0)] ⟨rfl, rfl, rfl, rfl, rfl, rfl, trivial⟩ ?_
          conv => whnf
          repeat' first
              | ((with_reducible apply XBr.tt); conv => whnf)
              | ((with_reducible apply XBr.ff); conv => whnf)
              | (with_reducible apply XBr.not)
              | ((with_reducible apply XBr.dec) <;> (intro h; first | (exfalso; omega) | ((try simp only [List.length_map] at h); first | (exfalso; omega) | (conv => whnf))))
              | ((with_reducible apply XBr.beq) <;> (intro h; first | (exfalso; omega) | (conv => whnf)))
              | ((with_reducible apply XBr.bne) <;> (intro h; first | (exfalso; omega) | (conv => whnf)))
              | ((with_reducible refine XInt.i64 (by omega) (by omega) ?_); conv => whnf)
              | ((with_reducible refine XHold.mk ?_ ?_); (first | omega | rfl | decide | exact ⟨rfl, by decide, rfl⟩ | exact wideI _ | exact widePr _ | exact wideSk _ | (unfold Room; constructor <;> ((try simp) <;> omega)) | exact ⟨rfl, by simp only [List.length_map], by unfold Room; constructor <;> ((try simp) <;> omega)⟩ | exact ⟨by omega, by omega, by unfold Room; constructor <;> ((try simp) <;> omega)⟩); conv => whnf)
              | ((with_reducible refine XIx.nat ?_ ?_ ?_); omega; (intro _; rfl); conv => whnf)
              | ((with_reducible refine XIx.map ?_ ?_ ?_ ?_); omega; omega; (intro _; rfl); conv => whnf)
              | (with_reducible apply XAnd.mk)
              | ((with_reducible apply Chk.go); conv => whnf)
              | ((with_reducible apply ChkA.go); conv => whnf)
              | ((with_reducible apply ChkF.go); conv => whnf)
              | ((with_reducible apply ChkB.go); conv => whnf)
              | (exact XSame.mk rfl rfl)
              | (exact XSame.mk (by first | rfl | (simp only [List.map_append, List.length_append, List.length_map]; done) | (simp only [List.map_append, List.length_append, List.length_map]; rfl)) (by first | rfl | (simp only [List.map_append]; done) | (simp only [List.map_append]; rfl)))
              | (with_reducible exact trivial)
              | ((with_reducible refine xdrop_app (by rw [List.length_map]; omega) ?_); conv => whnf)
              | ((with_reducible refine XArr.ints (by omega) (by omega) (by omega) ?_); conv => whnf)
              | ((with_reducible refine XArr.intsA (by omega) (by omega) (by omega) ?_); conv => whnf)
              | ((with_reducible refine XArr.nats ?_ ?_ ?_); omega; omega; conv => whnf)
              | ((with_reducible refine XArr.natsA ?_ ?_ ?_); omega; omega; conv => whnf)
              | ((with_reducible apply XArr.pim0); conv => whnf)
              | ((with_reducible apply XArr.pim1); conv => whnf)
              | ((with_reducible refine XArr.ptr ?_ ?_ ?_); omega; omega; conv => whnf)
              | ((refine XCall.ret awake_c ?_); conv => whnf)
              | ((with_reducible apply XBr.mk') <;> (intro h; conv => whnf))
          all_goals exact XOut.bool rfl
end GA
end
