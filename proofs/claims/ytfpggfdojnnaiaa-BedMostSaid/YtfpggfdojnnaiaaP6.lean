/- Part 6 of a proof: D34, D35, D21, D41, B8, D42, Abs37, Abs38, D36, D43. -/
import Derived.Test.YtfpggfdojnnaiaaP5
section
namespace GA
open Go Go.RowKit Go.Proofs
set_option pp.deepTerms true
set_option maxRecDepth 8000
set_option linter.unusedVariables false
set_option linter.unusedSimpArgs false

structure EI (c : Int) (G : Nat → Bool) (d : Prop) : Prop where
  lo : ∀ k : Nat, G k = true → c ≤ k
  dn : d → 0 ≤ c ∧ G c.toNat = true
theorem EI.weak {c : Int} {G : Nat → Bool} {d d' : Prop} (h : EI c G d) (hd : d' → d) : EI c G d' := ⟨h.lo, fun x => h.dn (hd x)⟩
theorem EI.put {c : Int} {G : Nat → Bool} {d d' : Prop} (h : EI c G d) {v : Nat} (hv : c ≤ v) (hd : d' → d ∨ (v : Int) = c) : EI c (updV G v true) d' := by
  refine ⟨fun k hk => ?_, fun x => ?_⟩
  · unfold updV at hk
    split at hk
    · rename_i e; subst e; exact hv
    · exact h.lo k hk
  · unfold updV
    rcases hd x with h1 | h1
    · obtain ⟨h2, h3⟩ := h.dn h1
      refine ⟨h2, ?_⟩
      split <;> first | rfl | exact h3
    · exact ⟨by omega, by rw [if_pos (by omega)]⟩
theorem grC_lo {b : Bd} (ok : BedOk b) {m : Nat} (hm : m < b.months.length) {c n : Nat} (h : c ≤ n) {sp st : Int} (hc : InC b m sp st) : lieR b m c ≤ grC b m n sp st := by
  have h1 := (grC_b ok hm (n := n) hc).1
  have h2 := lieR_mono ok hm h
  omega
set_option maxHeartbeats 1000000 in
theorem ends_c (b : Bd) (ok : BedOk b) (nl : Bool) (plan : List Int) (hl : plan.length = b.months.length) (hp : ∀ x ∈ plan, 0 ≤ x ∧ x ≤ b.room) : Comp Try.prog 30 [bedA b, .sl nl (ints plan)] (.int .i64 (negR (endP b plan b.months.length (leastR b).toNat))) := by
  have m1 := ok.m1
  have m2 := ok.m2
  have r1 := ok.r1
  have r2 := ok.r2
  have f1 := ok.f1
  have f2 := ok.f2
  have u1 := ok.u1
  have u2 := ok.u2
  have e1 : ((b.months.map moA).length : Int) = b.months.length := by rw [List.length_map]
  have hlr : leastR b = max 0 (b.first - b.unsure) := rfl
  obtain ⟨c0, hc0⟩ : ∃ c0 : Nat, (leastR b).toNat = c0 := ⟨_, rfl⟩
  rw [hc0]
  generalize hE : endP b plan b.months.length c0 = E
  refine Comp.body (T := tab) (res := [.tmp 4]) tab_ok [] Try.func30 rfl (by kernel_rfl) Try.ntmps30 rfl (by simp only [List.length_cons, List.length_nil]; decide) (by simp only [lowL, bedL, AV.low, lowI]; rfl) ?_; conv => whnf
  repeat' first | ((with_reducible refine XInt.i64 (by omega) (by omega) ?_); conv => whnf) | ((with_reducible refine XHold.mk ?_ ?_); (first | omega | rfl | decide | exact ⟨rfl, by decide, rfl⟩ | exact wideI _ | exact widePr _ | exact wideSk _ | (unfold Room; constructor <;> ((try simp) <;> omega)) | exact ⟨rfl, by simp only [List.length_map], by unfold Room; constructor <;> ((try simp) <;> omega)⟩ | exact ⟨by omega, by omega, by unfold Room; constructor <;> ((try simp) <;> omega)⟩); conv => whnf) | fail
  refine Walk.loopK tab_ok [] [(1, _), (2, _), (4, _), (5, _)] ⟨rfl, rfl, rfl, rfl, trivial⟩ (fun n : Nat => (n : Int) ≤ b.room + 1) (fun n => [(6, natA n)]) (fun n => [.grow 4 false (bls (b.room + 1).toNat fun q => decide (q < n) && inZ q (b.first - b.unsure) (b.first + b.unsure))]) (fun n => (b.room + 1).toNat - n) 0 (by omega) ?_ ⟨rfl, trivial⟩ ?_
  · show [Blk.grow _ false (bls _ _)] = [Blk.grow _ false (List.replicate _ _)]
    rw [bls0]
    refine congrArg (fun z => [Blk.grow _ false z]) (congrArg (List.map AV.bool) (vecF_congr fun i hi => ?_))
    rw [decide_eq_false (by omega)]; rfl
  · intro n hn
    have hin := fun (i : Nat) => show updV (fun q : Nat => decide (q < n) && inZ q (b.first - b.unsure) (b.first + b.unsure)) n (inZ n (b.first - b.unsure) (b.first + b.unsure)) i = (decide (i < n + 1) && inZ i (b.first - b.unsure) (b.first + b.unsure)) by
      unfold updV
      split
      · rename_i e; subst e; rw [decide_eq_true (by omega)]; rfl
      · rw [show decide (i < n + 1) = decide (i < n) by rw [decide_eq_decide]; omega]
    conv => whnf
    by_cases hlt : (n : Int) ≤ b.room
    · have hof := off04_c n (b.first - b.unsure) (b.first + b.unsure)
      generalize inZ (n : Int) (b.first - b.unsure) (b.first + b.unsure) = r at hof hin
      cases r
      all_goals
        repeat' first | ((with_reducible apply XBr.dec) <;> (intro h; first | (exfalso; omega) | ((try simp only [List.length_map] at h); first | (exfalso; omega) | (conv => whnf)))) | ((first | (with_reducible refine XInt.i64 (by omega) (by omega) ?_) | (refine XCall.ret hof ?_) | (refine XHold.mk ⟨bls_len _ _, rfl, by omega, by omega⟩ ?_) | (refine XPut.bls n (by omega) rfl (by omega) ?_)); conv => whnf) | fail
        exact XAgain.go (n + 1) (by omega) (by omega) (congrArg (fun z => [Blk.grow _ false z]) (congrArg (List.map AV.bool) (vecF_congr fun i hi => (hin i).symm))) ⟨rfl, rfl, rfl, rfl, rfl, trivial⟩
    · obtain rfl : n = (b.room + 1).toNat := by omega
      clear hin
      repeat' first | ((with_reducible apply XBr.dec) <;> (intro h; first | (exfalso; omega) | ((try simp only [List.length_map] at h); first | (exfalso; omega) | (conv => whnf)))) | fail
      refine Walk.freeze 5 0 (b.room + 1).toNat rfl rfl (bls_len _ _) ?_
      refine Walk.loopFK tab_ok [] [(1, _), (2, _)] ⟨rfl, rfl, trivial⟩ (fun q : Nat × Nat × (Nat → Bool) => q.1 ≤ b.months.length ∧ (q.2.1 : Int) ≤ b.room ∧ q.2.2 q.2.1 = true ∧ (∀ n : Nat, (n : Int) ≤ b.room → q.2.2 n = true → q.2.1 ≤ n) ∧ endP b plan (b.months.length - q.1) q.2.1 = E) (fun q => [(5, .sl false (bls (b.room + 1).toNat q.2.2)), (7, natA q.1)]) (fun _ => [.dead]) (fun q => b.months.length - q.1) (0, c0, fun q => decide (q < (b.room + 1).toNat) && inZ q (b.first - b.unsure) (b.first + b.unsure)) ⟨Nat.zero_le _, by dsimp only; omega, ?_, ?_, hE⟩ rfl ⟨rfl, rfl, trivial⟩ ?_ (fun _ _ => (show (1 : Nat) ≤ 1 from Nat.le_refl 1)) ?_
      · dsimp only; rw [decide_eq_true (by omega), inZ_iff.2 (by omega)]; rfl
      · intro n hn hh
        dsimp only at hh
        rw [Bool.and_eq_true, inZ_iff] at hh
        dsimp only; omega
      · intro q _ z hz
        rw [List.mem_singleton] at hz; subst hz; rfl
      rintro ⟨i, c, F⟩ ⟨hi, hc, hF, hF2, he⟩
      dsimp only at hi hc hF hF2 he ⊢
      conv => whnf
      by_cases hlt2 : i < b.months.length
      · have hmo := ok.mo' hlt2
        have hpm := hp _ (getD_mem (d := default) (show i < plan.length by omega))
        have hpd : plan.getD i 0 = plan.getD i default := rfl
        have hlb := lieR_b ok (j := i) (n := c) hlt2
        have hglo := fun (n : Nat) (h : c ≤ n) (sp st : Int) (q : InC b i sp st) => grC_lo ok hlt2 h q
        have hgb := fun (n : Nat) (sp st : Int) (q : InC b i sp st) => grC_b ok hlt2 (n := n) q
        have hgc : lieR b i c = grC b i c (moB b i).pl (moB b i).th := rfl
        have hgr := fun (n : Nat) (hn : (n : Int) ≤ b.room) (sp st : Int) (q : InC b i sp st) => refGross_c b (moB b i) n sp st (by omega) (by omega) hmo.1 hmo.2.1 (by omega) (by omega) (by have := q.1; omega) (by have := q.2.1; omega) (by have := q.2.2.1; omega) (by have := q.2.2.2; omega)
        change ∀ (n : Nat) (hn : (n : Int) ≤ b.room) (sp st : Int) (q : InC b i sp st), Comp Try.prog _ _ (.int .i64 (grC b i n sp st)) at hgr
        rw [endP_next hlt2, hpd] at he
        generalize hcc : lieR b i c - plan.getD i default = c' at he
        repeat' first | ((with_reducible apply XBr.dec) <;> (intro h; first | (exfalso; omega) | ((try simp only [List.length_map] at h); first | (exfalso; omega) | (conv => whnf)))) | ((with_reducible refine XInt.i64 (by omega) (by omega) ?_); conv => whnf) | ((with_reducible refine XHold.mk ?_ ?_); (first | omega | rfl | decide | exact ⟨rfl, by decide, rfl⟩ | exact wideI _ | exact widePr _ | exact wideSk _ | (unfold Room; constructor <;> ((try simp) <;> omega)) | exact ⟨rfl, by simp only [List.length_map], by unfold Room; constructor <;> ((try simp) <;> omega)⟩ | exact ⟨by omega, by omega, by unfold Room; constructor <;> ((try simp) <;> omega)⟩); conv => whnf) | (((with_reducible refine XIx.nat ?_ ?_ ?_); omega; (intro _; rfl)); conv => whnf) | fail
        refine Walk.loopK tab_ok [] [(1, _), (2, _), (5, _), (7, _), (8, _), (9, _)] ⟨rfl, rfl, rfl, rfl, rfl, rfl, trivial⟩ (fun q : Nat × (Nat → Bool) => (q.1 : Int) ≤ b.room + 1 ∧ EI c' q.2 (c < q.1)) (fun q => [(10, natA q.1)]) (fun q => [.dead, .cells (moC (moB b i)), .grow 4 false (bls (b.room + 1).toNat q.2)]) (fun q => (b.room + 1).toNat - q.1) (0, fun _ => false) ⟨by dsimp only; omega, ⟨fun k h => (by cases h), fun h => (by omega)⟩⟩ ?_ ⟨rfl, trivial⟩ ?_
        · show [Blk.dead, Blk.cells _, Blk.grow _ false (bls _ _)] = [Blk.dead, Blk.cells _, Blk.grow _ false (List.replicate _ _)]
          rw [bls0]; rfl
        rintro ⟨n, G⟩ ⟨hn, hG⟩
        dsimp only at hn hG ⊢
        conv => whnf
        by_cases hltn : (n : Int) ≤ b.room
        · skip
          repeat' first | ((with_reducible apply XBr.dec) <;> (intro h; first | (exfalso; omega) | ((try simp only [List.length_map] at h); first | (exfalso; omega) | (conv => whnf)))) | fail
          cases hFn : F n
          · have hcn : c ≠ n := fun e => by rw [e, hFn] at hF; cases hF
            refine Walk.loopK tab_ok [] [(1, _), (2, _), (5, _), (7, _), (8, _), (9, _), (10, _)] ⟨rfl, rfl, rfl, rfl, rfl, rfl, rfl, trivial⟩ (fun _ : Unit => True) (fun _ => [(11, .int .i64 (moB b i).pl)]) (fun q => [.dead, .cells (moC (moB b i)), .grow 4 false (bls (b.room + 1).toNat G)]) (fun _ => 0) () trivial rfl ⟨rfl, trivial⟩ ?_
            intro _ _
            conv => whnf
            repeat' first | ((first | (with_reducible apply XBr.ff) | (with_reducible refine XInt.i64 (by omega) (by omega) ?_) | ((refine XIx.bls n rfl (by omega) ?_); rw [hFn])); conv => whnf) | fail
            exact XAgain.go (n + 1, G) ⟨by dsimp only; omega, hG.weak fun h => by omega⟩ (by dsimp only; omega) rfl ⟨rfl, rfl, rfl, rfl, rfl, rfl, rfl, trivial⟩
          · have hcn := hF2 n hltn hFn
            refine Walk.loopK tab_ok [] [(1, _), (2, _), (5, _), (7, _), (8, _), (9, _), (10, _)] ⟨rfl, rfl, rfl, rfl, rfl, rfl, rfl, trivial⟩ (fun q : Int × (Nat → Bool) => (moB b i).pl ≤ q.1 ∧ q.1 ≤ (moB b i).ph + 1 ∧ EI c' q.2 (c < n ∨ (c = n ∧ (moB b i).pl < q.1))) (fun q => [(11, .int .i64 q.1)]) (fun q => [.dead, .cells (moC (moB b i)), .grow 4 false (bls (b.room + 1).toNat q.2)]) (fun q => ((moB b i).ph + 1 - q.1).toNat) ((moB b i).pl, G) ⟨Int.le_refl _, by dsimp only; omega, hG.weak fun h => by omega⟩ rfl ⟨rfl, trivial⟩ ?_
            rintro ⟨sp, G⟩ ⟨hs1, hs2, hG⟩
            dsimp only at hs1 hs2 hG ⊢
            conv => whnf
            by_cases hlts : sp ≤ (moB b i).ph
            · skip
              repeat' first | ((with_reducible apply XBr.tt); conv => whnf) | ((with_reducible apply XBr.dec) <;> (intro h; first | (exfalso; omega) | ((try simp only [List.length_map] at h); first | (exfalso; omega) | (conv => whnf)))) | (((refine XIx.bls n rfl (by omega) ?_); rw [hFn]); conv => whnf) | fail
              refine Walk.loopK tab_ok [] [(1, _), (2, _), (5, _), (7, _), (8, _), (9, _), (10, _), (11, _)] ⟨rfl, rfl, rfl, rfl, rfl, rfl, rfl, rfl, trivial⟩ (fun q : Int × (Nat → Bool) => (moB b i).tl ≤ q.1 ∧ q.1 ≤ (moB b i).th + 1 ∧ EI c' q.2 (c < n ∨ (c = n ∧ ((moB b i).pl < sp ∨ (moB b i).th < q.1)))) (fun q => [(12, .int .i64 q.1)]) (fun q => [.dead, .cells (moC (moB b i)), .grow 4 false (bls (b.room + 1).toNat q.2)]) (fun q => ((moB b i).th + 1 - q.1).toNat) ((moB b i).tl, G) ⟨Int.le_refl _, by dsimp only; omega, hG.weak fun h => by omega⟩ rfl ⟨rfl, trivial⟩ ?_
              rintro ⟨st, G⟩ ⟨ht1, ht2, hG⟩
              dsimp only at ht1 ht2 hG ⊢
              conv => whnf
              by_cases hltt : st ≤ (moB b i).th
              · have hin : InC b i sp st := ⟨hs1, hlts, ht1, hltt⟩
                have hg := hgr n hltn sp st hin
                have hb := hgb n sp st hin
                have hlo := hglo n hcn sp st hin
                have hcv : c = n → ¬ (moB b i).pl < sp → ¬ (moB b i).th < st → (moB b i).th < st + 1 → grC b i n sp st = lieR b i c := fun h1 h2 h3 h4 => by
                  rw [hgc, h1, show sp = (moB b i).pl by omega, show st = (moB b i).th by omega]
                generalize grC b i n sp st = v at hg hb hlo hcv
                repeat' first | ((with_reducible apply XBr.dec) <;> (intro h; first | (exfalso; omega) | ((try simp only [List.length_map] at h); first | (exfalso; omega) | (conv => whnf)))) | ((first | (with_reducible refine XInt.i64 (by omega) (by omega) ?_) | ((with_reducible refine XIx.nat ?_ ?_ ?_); omega; (intro _; rfl))); conv => whnf) | (with_reducible apply XAnd.mk) | ((first | (with_reducible apply Chk.go) | (with_reducible apply ChkA.go) | (with_reducible apply ChkF.go) | (with_reducible apply ChkB.go)); conv => whnf) | (exact XSame.mk rfl rfl) | (with_reducible exact trivial) | (apply Walk.drawN (id := 20) tab_ok mixed_ok [] [] (hsU _) [_, _, _, _, _, _, _, _, _, _, _, _, _] (by kernel_rfl) rfl) | ((first | (with_reducible apply XNext.mk) | (refine XCall.ret hg ?_) | (refine XHold.mk ⟨bls_len _ _, rfl, by omega, by omega⟩ ?_) | (refine XPut.bls (v - plan.getD i default).toNat rfl rfl (by omega) ?_)); conv => whnf) | fail
                · rename_i h
                  have h' : v - plan.getD i default < 0 := h
                  rw [if_pos (by omega)] at he
                  refine XOut.int ?_
                  unfold negR; rw [← he, if_pos (by omega)]
                · rename_i h
                  have h' : ¬ v - plan.getD i default < 0 := h
                  refine XAgain.go (st + 1, _) ⟨by dsimp only; omega, by dsimp only; omega, hG.put (by omega) fun h => ?_⟩ (by dsimp only; omega) rfl ⟨rfl, rfl, rfl, rfl, rfl, rfl, rfl, rfl, rfl, trivial⟩
                  by_cases hd : c < n ∨ c = n ∧ ((moB b i).pl < sp ∨ (moB b i).th < st)
                  · exact .inl hd
                  · right
                    have := hcv (by omega) (by omega) (by omega) (by omega)
                    omega
              · skip
                repeat' first | ((with_reducible apply XBr.dec) <;> (intro h; first | (exfalso; omega) | ((try simp only [List.length_map] at h); first | (exfalso; omega) | (conv => whnf)))) | ((with_reducible refine XInt.i64 (by omega) (by omega) ?_); conv => whnf) | fail
                exact XAgain.go (sp + 1, G) ⟨by dsimp only; omega, by dsimp only; omega, hG.weak fun h => by omega⟩ (by dsimp only; omega) rfl ⟨rfl, rfl, rfl, rfl, rfl, rfl, rfl, rfl, trivial⟩
            · skip
              repeat' first | ((with_reducible apply XBr.tt); conv => whnf) | ((with_reducible apply XBr.dec) <;> (intro h; first | (exfalso; omega) | ((try simp only [List.length_map] at h); first | (exfalso; omega) | (conv => whnf)))) | ((first | (with_reducible refine XInt.i64 (by omega) (by omega) ?_) | ((refine XIx.bls n rfl (by omega) ?_); rw [hFn])); conv => whnf) | fail
              exact XAgain.go (n + 1, G) ⟨by dsimp only; omega, hG.weak fun h => by omega⟩ (by dsimp only; omega) rfl ⟨rfl, rfl, rfl, rfl, rfl, rfl, rfl, trivial⟩
        · skip
          repeat' first | ((with_reducible apply XBr.dec) <;> (intro h; first | (exfalso; omega) | ((try simp only [List.length_map] at h); first | (exfalso; omega) | (conv => whnf)))) | ((with_reducible refine XInt.i64 (by omega) (by omega) ?_); conv => whnf) | fail
          obtain ⟨hz1, hz2⟩ := hG.dn (by omega)
          rw [if_neg (by omega)] at he
          refine XAgainF.go (i + 1, c'.toNat, G) [.cells (moC (moB b i)), .grow 4 false (bls (b.room + 1).toNat G)] ⟨by dsimp only; omega, by dsimp only; omega, hz2, fun n hn h => ?_, he⟩ (by dsimp only; omega) rfl ⟨⟨_, rfl, .same (by simp only [AV.low, lowI])⟩, ⟨_, rfl, .same (lowBd b)⟩, ⟨_, rfl, .gr (show (1 : Nat) ≤ 2 by decide) rfl (bls_len _ _) (bls_low _ _)⟩, ⟨_, rfl, .same rfl⟩, trivial⟩
          have := hG.lo n h
          dsimp only; omega
      · obtain rfl : i = b.months.length := by omega
        rw [Nat.sub_self] at he
        change (c : Int) = E at he
        have hli := refList_c false F (b.room + 1).toNat (by omega)
        have hhd := lstF_head (F := F) (c := c) hF (fun j hj => by
          cases h : F j with
          | false => rfl
          | true => have := hF2 j (by omega) h; omega) (n := (b.room + 1).toNat) (by omega)
        have hne : 0 < (lstF F (b.room + 1).toNat).length := List.length_pos_of_mem (lstF_mem.2 ⟨c, by omega, hF, rfl⟩)
        generalize lstF F (b.room + 1).toNat = ls at hli hhd hne
        have e3 : ((ints ls).length : Int) = ls.length := by rw [ints_len]
        repeat' first | ((with_reducible apply XBr.dec) <;> (intro h; first | (exfalso; omega) | ((try simp only [List.length_map] at h); first | (exfalso; omega) | (conv => whnf)))) | ((first | ((with_reducible refine XIx.map ?_ ?_ ?_ ?_); omega; omega; (intro _; rfl)) | (refine XCall.ret hli ?_)); conv => whnf) | fail
        refine XOut.int ?_
        rw [← he]
        unfold negR; rw [if_neg (by omega)]
        exact hhd
end GA
end

section
namespace GA
open Go Go.RowKit Go.Proofs
set_option pp.deepTerms true
set_option maxRecDepth 8000
set_option linter.unusedVariables false
set_option linter.unusedSimpArgs false

theorem great_iff {b : Bd} : great04 b = false ↔ b.months.length ≤ 14 ∧ b.surveys.length ≤ 12 := by
  unfold great04
  rw [Bool.or_eq_false_iff, decide_eq_false_iff_not, decide_eq_false_iff_not]; omega
def bzero : List AV := [.int .i64 0, .int .i64 0, .int .i64 0, .sl true [], .sl true []]
theorem negR_ge {e s : Int} (h : 0 ≤ s) : s ≤ negR e ↔ s ≤ e := by unfold negR; split <;> omega
end GA
end

section
namespace GA
open Go Go.RowKit Go.Proofs
set_option pp.deepTerms true
set_option maxRecDepth 8000
set_option linter.unusedVariables false
set_option linter.unusedSimpArgs false

def okP (b : Bd) (share : Int) : Nat → Nat → List Int → Prop
  | 0, q, xs => xs = [] ∧ share ≤ q
  | _ + 1, _, [] => False
  | k + 1, q, x :: xs => 0 ≤ x ∧ x ≤ lieR b (b.months.length - (k + 1)) q ∧ okP b share k (lieR b (b.months.length - (k + 1)) q - x).toNat xs
theorem stepM_ub {nx : Nat → Int} {lies : Nat} : ∀ {n r : Nat}, r < n → nx (lies - r) ≠ -1 → (r : Int) + nx (lies - r) ≤ stepM nx lies n
  | n + 1, r, h, hne => by
    unfold stepM
    by_cases hr : r = n
    · subst hr; rw [if_neg hne]; omega
    · have := stepM_ub (nx := nx) (lies := lies) (n := n) (r := r) (by omega) hne
      split <;> omega
theorem stepM_at {nx : Nat → Int} {lies : Nat} (h0 : ∀ q, -1 ≤ nx q) : ∀ n, stepM nx lies n = -1 ∨ ∃ r, r < n ∧ nx (lies - r) ≠ -1 ∧ (r : Int) + nx (lies - r) = stepM nx lies n
  | 0 => .inl rfl
  | n + 1 => by
    unfold stepM
    by_cases hn : nx (lies - n) = -1
    · rw [if_pos hn]
      rcases stepM_at h0 n with h | ⟨r, h1, h2, h3⟩
      · exact .inl h
      · exact .inr ⟨r, by omega, h2, h3⟩
    · rw [if_neg hn]
      right
      have := h0 (lies - n)
      by_cases hc : stepM nx lies n ≤ n + nx (lies - n)
      · exact ⟨n, by omega, hn, by omega⟩
      · rcases stepM_at (nx := nx) (lies := lies) h0 n with h | ⟨r, h1, h2, h3⟩
        · omega
        · exact ⟨r, by omega, h2, by omega⟩
theorem rakeM_iff {nx : Nat → Int} {lies r : Nat} {v : Int} : rakeM nx lies v r = true ↔ nx (lies - r) ≠ -1 ∧ (r : Int) + nx (lies - r) = v := by
  unfold rakeM
  simp
theorem planM_max {b : Bd} (o : BedOk b) (share : Int) : ∀ k, k ≤ b.months.length → ∀ a,
    (valM b share k a ≠ -1 → okP b share k a (planM b share k a) ∧ (planM b share k a).sum = valM b share k a) ∧
    ∀ xs, okP b share k a xs → valM b share k a ≠ -1 ∧ xs.sum ≤ valM b share k a ∧ (xs.sum = valM b share k a → 0 ≤ cmpL xs (planM b share k a))
  | 0, _, a => by
    refine ⟨fun h => ?_, fun xs h => ?_⟩
    · unfold valM at h ⊢
      by_cases hs : share ≤ a
      · rw [if_pos hs]; exact ⟨⟨rfl, hs⟩, rfl⟩
      · rw [if_neg hs] at h; exact absurd rfl h
    · obtain ⟨rfl, hs⟩ := h
      unfold valM
      rw [if_pos hs]
      exact ⟨by omega, by simp, fun _ => by simp [planM, cmpL]⟩
  | k + 1, hk, a => by
    have hl := lieR_b o (j := b.months.length - (k + 1)) (n := a) (by have := o.m1; omega)
    obtain ⟨lies, hlies⟩ : ∃ lies : Nat, lieR b (b.months.length - (k + 1)) a = lies := ⟨(lieR b (b.months.length - (k + 1)) a).toNat, by omega⟩
    have ih := planM_max o share k (by omega)
    have hvb := valM_b o share k (by omega)
    have hval : valM b share (k + 1) a = stepM (valM b share k) lies (lies + 1) := by
      show stepM _ (lieR b (b.months.length - (k + 1)) a).toNat ((lieR b (b.months.length - (k + 1)) a).toNat + 1) = _
      rw [hlies, Int.toNat_natCast]
    have key : ∀ r, r ≤ lies → rakeM (valM b share k) lies (valM b share (k + 1) a) r = true → ∃ r0, r0 ≤ r ∧ rakeM (valM b share k) lies (valM b share (k + 1) a) r0 = true ∧ planM b share (k + 1) a = (r0 : Int) :: planM b share k (lies - r0) := by
      intro r hr hrk
      cases hf : (List.range (lies + 1)).find? (rakeM (valM b share k) lies (valM b share (k + 1) a)) with
      | none =>
        have := List.find?_range_eq_none.1 hf r (by omega)
        rw [hrk] at this; cases this
      | some r0 =>
        obtain ⟨h1, h2, h3⟩ := List.find?_range_eq_some.1 hf
        have h2' := List.mem_range.1 h2
        have hle : r0 ≤ r := by
          by_cases hlt : r < r0
          · have := h3 r hlt
            rw [hrk] at this; cases this
          · omega
        exact ⟨r0, hle, h1, planM_some hlies (by omega) h1 fun q hq => by have := h3 q hq; simpa using this⟩
    refine ⟨fun h => ?_, fun xs h => ?_⟩
    · rw [hval] at h
      rcases stepM_at (lies := lies) (fun q => (hvb q).1) (lies + 1) with h' | ⟨r, h1, h2, h3⟩
      · exact absurd h' h
      · obtain ⟨r0, q1, q2, q3⟩ := key r (by omega) (rakeM_iff.2 ⟨h2, by rw [hval]; exact h3⟩)
        obtain ⟨p1, p2⟩ := rakeM_iff.1 q2
        obtain ⟨i1, i2⟩ := (ih (lies - r0)).1 p1
        rw [q3]
        refine ⟨⟨by omega, by rw [hlies]; omega, ?_⟩, ?_⟩
        · rw [hlies, show ((lies : Int) - (r0 : Int)).toNat = lies - r0 by omega]; exact i1
        · rw [List.sum_cons, i2, p2]
    · cases xs with
      | nil => exact h.elim
      | cons x xs =>
        obtain ⟨x1, x2, x3⟩ := h
        rw [hlies] at x2 x3
        obtain ⟨r, rfl⟩ : ∃ r : Nat, x = r := ⟨x.toNat, by omega⟩
        rw [show ((lies : Int) - (r : Int)).toNat = lies - r by omega] at x3
        obtain ⟨i1, i2, i3⟩ := (ih (lies - r)).2 xs x3
        have hub := stepM_ub (nx := valM b share k) (lies := lies) (n := lies + 1) (r := r) (by omega) i1
        rw [← hval] at hub
        have hv0 := (hvb (lies - r)).1
        refine ⟨by omega, by rw [List.sum_cons]; omega, fun hsum => ?_⟩
        rw [List.sum_cons] at hsum
        obtain ⟨r0, q1, q2, q3⟩ := key r (by omega) (rakeM_iff.2 ⟨i1, by omega⟩)
        rw [q3]
        show 0 ≤ (if (r : Int) < r0 then -1 else if (r0 : Int) < r then 1 else cmpL xs (planM b share k (lies - r0)))
        rw [if_neg (by omega)]
        by_cases hlt : (r0 : Int) < r
        · rw [if_pos hlt]; decide
        · rw [if_neg hlt]
          obtain rfl : r0 = r := by omega
          exact i3 (by omega)
theorem planM_bd {b : Bd} (o : BedOk b) (share : Int) : ∀ k, k ≤ b.months.length → ∀ a, (∀ x ∈ planM b share k a, 0 ≤ x ∧ x ≤ b.room) ∧ (planM b share k a).length ≤ k
  | 0, _, a => ⟨by simp [planM], Nat.le_refl _⟩
  | k + 1, hk, a => by
    have hl := lieR_b o (j := b.months.length - (k + 1)) (n := a) (by have := o.m1; omega)
    unfold planM
    split
    · rename_i r hr
      have hm := List.mem_range.1 (List.mem_of_find?_eq_some hr)
      have ih := planM_bd o share k (by omega) ((lieR b (b.months.length - (k + 1)) a).toNat - r)
      refine ⟨fun x hx => ?_, by simp only [List.length_cons]; omega⟩
      rcases List.mem_cons.1 hx with rfl | hx
      · omega
      · exact ih.1 x hx
    · have ih := planM_bd o share k (by omega) a
      exact ⟨ih.1, by omega⟩
theorem lieR_withPlan {b : Bd} {plan : List Int} {m n : Nat} (hm : m < b.months.length) : lieR (withPlan b plan) m n = lieR b m n := by
  have := withPlan_mo (b := b) (plan := plan) hm
  unfold moB at this
  unfold lieR
  rw [this]; rfl
theorem endW_ok {b : Bd} {plan : List Int} (hl : plan.length = b.months.length) (hp : ∀ x ∈ plan, 0 ≤ x) {share : Int} (hs : 0 ≤ share) : ∀ k, k ≤ b.months.length → ∀ n, share ≤ endW (withPlan b plan) k n ↔ okP b share k n (plan.drop (b.months.length - k))
  | 0, _, n => by
    rw [List.drop_of_length_le (by omega)]
    exact ⟨fun h => ⟨rfl, h⟩, fun h => h.2⟩
  | k + 1, hk, n => by
    have hm : b.months.length - (k + 1) < plan.length := by omega
    have hd := drop_next hm
    rw [show b.months.length - (k + 1) + 1 = b.months.length - k by omega] at hd
    rw [hd]
    have hmM : b.months.length - (k + 1) < b.months.length := by omega
    have hr : (moB (withPlan b plan) (b.months.length - (k + 1))).r = plan.getD (b.months.length - (k + 1)) default := by rw [withPlan_mo hmM]; rfl
    have h0 := hp _ (getD_mem (d := default) hm)
    unfold endW
    rw [withPlan_len, lieR_withPlan hmM, hr]
    show _ ↔ 0 ≤ _ ∧ _ ≤ _ ∧ okP b share k _ _
    rw [← endW_ok hl hp hs k (by omega)]
    split
    · constructor <;> intro h <;> omega
    · exact ⟨fun h => ⟨h0, by omega, h⟩, fun h => h.2.2⟩
theorem keepB_iff {b : Bd} {plan : List Int} (hl : plan.length = b.months.length) (hp : ∀ x ∈ plan, 0 ≤ x) {share : Int} (hs : 0 ≤ share) : keepB b plan share = true ↔ okP b share b.months.length (leastR b).toNat plan := by
  unfold keepB endR
  rw [decide_eq_true_iff, withPlan_len]
  have := endW_ok hl hp hs b.months.length (Nat.le_refl _) (leastR (withPlan b plan)).toNat
  rw [Nat.sub_self, List.drop_zero] at this
  exact this
theorem okP_len {b : Bd} {share : Int} : ∀ {k a : Nat} {xs : List Int}, okP b share k a xs → xs.length = k
  | 0, _, _, h => by obtain ⟨rfl, _⟩ := h; rfl
  | k + 1, _, [], h => h.elim
  | k + 1, _, x :: xs, h => by rw [List.length_cons, okP_len h.2.2]
end GA
end

section
namespace GA
open Go Go.RowKit Go.Proofs
set_option pp.deepTerms true
set_option maxRecDepth 8000
set_option linter.unusedVariables false
set_option linter.unusedSimpArgs false

theorem takeS_sum {xs : List Int} {m : Nat} (h : m < xs.length) : (xs.take (m + 1)).sum = (xs.take m).sum + xs.getD m default := by
  rw [List.take_add_one, List.getElem?_eq_getElem h, List.sum_append, List.getD_eq_getElem?_getD, List.getElem?_eq_getElem h]
  simp
theorem takeS_b {xs : List Int} {r : Int} (h : ∀ x ∈ xs, 0 ≤ x ∧ x ≤ r) (hr : r ≤ 120) : ∀ m, m ≤ xs.length → 0 ≤ (xs.take m).sum ∧ (xs.take m).sum ≤ 120 * m
  | 0, _ => by simp
  | m + 1, hm => by
    have ih := takeS_b h hr m (by omega)
    have := h _ (getD_mem (d := default) (show m < xs.length by omega))
    rw [takeS_sum (by omega)]; omega
def allL (r : Nat) : Nat → List (List Int)
  | 0 => [[]]
  | k + 1 => (List.range (r + 1)).flatMap fun n : Nat => (allL r k).map fun xs => (n : Int) :: xs
theorem allL_mem {r : Nat} : ∀ {k : Nat} {xs : List Int}, xs ∈ allL r k ↔ xs.length = k ∧ ∀ x ∈ xs, 0 ≤ x ∧ x ≤ r
  | 0, xs => by
    rw [allL, List.mem_singleton]
    constructor
    · rintro rfl; exact ⟨rfl, by simp⟩
    · rintro ⟨h, -⟩; exact List.eq_nil_of_length_eq_zero h
  | k + 1, xs => by
    rw [allL, List.mem_flatMap]
    constructor
    · rintro ⟨n, hn, h⟩
      obtain ⟨ys, hy, rfl⟩ := List.mem_map.1 h
      obtain ⟨h1, h2⟩ := allL_mem.1 hy
      have := List.mem_range.1 hn
      refine ⟨by simp [h1], fun x hx => ?_⟩
      rcases List.mem_cons.1 hx with rfl | hx
      · omega
      · exact h2 x hx
    · rintro ⟨h1, h2⟩
      cases xs with
      | nil => simp at h1
      | cons x ys =>
        have hx := h2 x List.mem_cons_self
        refine ⟨x.toNat, List.mem_range.2 (by omega), List.mem_map.2 ⟨ys, allL_mem.2 ⟨by simpa using h1, fun y hy => h2 y (List.mem_cons_of_mem _ hy)⟩, ?_⟩⟩
        rw [Int.toNat_of_nonneg hx.1]
theorem allL_sorted (r : Nat) : ∀ k, (allL r k).Pairwise fun x y => cmpL x y < 0
  | 0 => by simp [allL]
  | k + 1 => by
    rw [allL, List.pairwise_flatMap]
    refine ⟨fun n _ => ?_, ?_⟩
    · rw [List.pairwise_map]
      refine (allL_sorted r k).imp fun {x y} h => ?_
      show (if (n : Int) < n then -1 else if (n : Int) < n then 1 else cmpL x y) < 0
      rw [if_neg (by omega), if_neg (by omega)]; exact h
    · refine List.pairwise_lt_range.imp fun {a c} h => ?_
      rintro x hx y hy
      obtain ⟨xs, -, rfl⟩ := List.mem_map.1 hx
      obtain ⟨ys, -, rfl⟩ := List.mem_map.1 hy
      show (if (a : Int) < c then -1 else if (c : Int) < a then 1 else cmpL xs ys) < 0
      rw [if_pos (by omega)]; decide
theorem allL_len (r : Nat) : ∀ k, (allL r k).length = (r + 1) ^ k
  | 0 => rfl
  | k + 1 => by
    rw [allL, List.length_flatMap]
    simp only [List.length_map, allL_len r k]
    rw [List.map_const', List.sum_replicate_nat, List.length_range, Nat.pow_succ, Nat.mul_comm]
theorem pow_b {r k : Nat} (hr : r ≤ 12) (hk : k ≤ 3) : (r + 1) ^ k ≤ 2197 := by
  have h1 : (r + 1) ^ k ≤ 13 ^ k := Nat.pow_le_pow_left (by omega) k
  have h2 : 13 ^ k ≤ 13 ^ 3 := Nat.pow_le_pow_right (by omega) hk
  have : (13 : Nat) ^ 3 = 2197 := by decide
  omega
def lsA (xs : List Int) : AV := .sl false (ints xs)
theorem lsA_low {n : Nat} (xs : List Int) : (lsA xs).low n = true := lowI xs
theorem lss_low {n : Nat} (l : List (List Int)) : lowL n (l.map lsA) = true := lowL_map (fun _ => lsA_low _) l
theorem wideLs (l : List (List Int)) : wide 1 (l.map lsA) = true := wide_map (f := lsA) (n := 1) (fun _ => rfl) (fun _ => rfl) l
def goL (r k : Nat) (begun : List Int) (n : Nat) : List (List Int) := (List.range n).flatMap fun q : Nat => (allL r k).map fun xs => begun ++ (q : Int) :: xs
theorem goL_succ (r k : Nat) (begun : List Int) (n : Nat) : goL r k begun (n + 1) = goL r k begun n ++ (allL r k).map fun xs => (begun ++ [(n : Int)]) ++ xs := by
  unfold goL
  rw [List.range_succ, List.flatMap_append, List.flatMap_singleton]
  congr 1
  exact List.map_congr_left fun xs _ => by rw [List.append_assoc]; rfl
theorem goL_all (r k : Nat) (begun : List Int) : goL r k begun (r + 1) = (allL r (k + 1)).map fun xs => begun ++ xs := by
  unfold goL
  rw [allL, List.map_flatMap]
  congr 1
  funext n
  rw [List.map_map]; rfl
theorem goL_len (r k : Nat) (begun : List Int) : ∀ n, (goL r k begun n).length = n * (r + 1) ^ k
  | 0 => by simp [goL]
  | n + 1 => by rw [goL_succ, List.length_append, goL_len r k begun n, List.length_map, allL_len, Nat.succ_mul]
theorem plans_c (b : Bd) (r1 : 1 ≤ b.room) (r2 : b.room ≤ 12) (hM : b.months.length ≤ 3) : ∀ (k : Nat) (nl : Bool) (begun : List Int), begun.length + k = b.months.length → (k = 0 → nl = false) →
    Comp Try.prog 124 [bedA b, .sl nl (ints begun)] (.sl false (((allL b.room.toNat k).map fun xs => begun ++ xs).map lsA))
  | 0, nl, begun, hl, hn => by
    have e1 : ((b.months.map moA).length : Int) = b.months.length := by rw [List.length_map]
    have e2 : ((ints begun).length : Int) = begun.length := by rw [ints_len]
    obtain rfl := hn rfl
    have hr : ((allL b.room.toNat 0).map fun xs => begun ++ xs).map lsA = [.sl false (ints begun)] := by
      show [lsA (begun ++ [])] = _
      rw [List.append_nil]; rfl
    rw [hr]
    refine Comp.body (T := tab) (res := [.tmp 4]) tab_ok [] Try.func124 rfl (by kernel_rfl) Try.ntmps124 rfl (by simp only [List.length_cons, List.length_nil]; decide) (by simp only [lowL, bedL, AV.low, lowI]; rfl) ?_; conv => whnf
    repeat' first | ((with_reducible apply XBr.beq) <;> (intro h; first | (exfalso; omega) | (conv => whnf))) | ((with_reducible refine XHold.mk ?_ ?_); (first | omega | rfl | decide | exact ⟨rfl, by decide, rfl⟩ | exact wideI _ | exact widePr _ | exact wideSk _ | (unfold Room; constructor <;> ((try simp) <;> omega)) | exact ⟨rfl, by simp only [List.length_map], by unfold Room; constructor <;> ((try simp) <;> omega)⟩ | exact ⟨by omega, by omega, by unfold Room; constructor <;> ((try simp) <;> omega)⟩); conv => whnf) | fail
    exact ⟨.low (by show (lowL 0 (ints begun) && true) = true; rw [lowI]; rfl)⟩
  | k + 1, nl, begun, hl, _ => by
    have e1 : ((b.months.map moA).length : Int) = b.months.length := by rw [List.length_map]
    have e2 : ((ints begun).length : Int) = begun.length := by rw [ints_len]
    have e3 : (ints begun).length = begun.length := ints_len _
    have ih := fun (n : Nat) => plans_c b r1 r2 hM k false (begun ++ [(n : Int)]) (by rw [List.length_append, List.length_singleton]; omega) (fun _ => rfl)
    have hb1 := pow_b (r := b.room.toNat) (k := k) (by omega) (by omega)
    have hb2 := pow_b (r := b.room.toNat) (k := k + 1) (by omega) (by omega)
    refine Comp.body (T := tab) (res := [.tmp 4]) tab_ok [] Try.func124 rfl (by kernel_rfl) Try.ntmps124 rfl (by simp only [List.length_cons, List.length_nil]; decide) (by simp only [lowL, bedL, AV.low, lowI]; rfl) ?_; conv => whnf
    repeat' first | ((with_reducible apply XBr.beq) <;> (intro h; first | (exfalso; omega) | (conv => whnf))) | fail
    refine Walk.nilgr 5 27 rfl ?_
    refine Walk.loopGK tab_ok [] [(1, _), (2, _), (4, _)] ⟨rfl, rfl, rfl, trivial⟩ (fun n : Nat => (n : Int) ≤ b.room + 1) (fun n => [(5, .gr 0 (goL b.room.toNat k begun n).length), (6, natA n)]) (fun n => [.grow 27 (goL b.room.toNat k begun n).isEmpty ((goL b.room.toNat k begun n).map lsA)]) (fun n => (b.room + 1).toNat - n) 0 (by omega) rfl ⟨rfl, rfl, trivial⟩ ?_ (fun _ _ => (show (1 : Nat) ≤ 1 from Nat.le_refl 1)) ?_
    · intro n _
      refine ⟨fun z hz => ?_, fun z hz => ?_⟩
      · rw [List.mem_singleton] at hz; subst hz; exact lss_low _
      · simp only [List.cons_append, List.nil_append, List.mem_cons, List.not_mem_nil, or_false] at hz
        rcases hz with rfl | rfl | rfl | rfl | rfl <;> first | rfl | exact lowI _ | exact lowBd b
    intro n hn
    have hgl := goL_len b.room.toNat k begun n
    have hgs := goL_succ b.room.toNat k begun n
    have hih := ih n
    have hml : (((allL b.room.toNat k).map fun xs => (begun ++ [(n : Int)]) ++ xs).map lsA).length = (b.room.toNat + 1) ^ k := by rw [List.length_map, List.length_map, allL_len]
    have hmul : (n : Int) ≤ b.room → n * (b.room.toNat + 1) ^ k ≤ 2197 := fun h => by
      have : n * (b.room.toNat + 1) ^ k ≤ (b.room.toNat + 1) * (b.room.toNat + 1) ^ k := Nat.mul_le_mul_right _ (by omega)
      rw [Nat.pow_succ, Nat.mul_comm] at hb2
      omega
    conv => whnf
    by_cases hlt : (n : Int) ≤ b.room
    · have hmul := hmul hlt
      generalize goL b.room.toNat k begun n = L at hgl hgs
      generalize hq : (((allL b.room.toNat k).map fun xs => (begun ++ [(n : Int)]) ++ xs)) = q at hgs hih hml
      generalize (b.room.toNat + 1) ^ k = w at hgl hml hmul hb1
      generalize n * w = nw at hgl hmul
      have hql : q.length = w := by rw [← hml, List.length_map]
      have hap : [Blk.grow 27 (L ++ q).isEmpty ((L ++ q).map lsA), Blk.dead] = [Blk.grow 27 (L.isEmpty && (q.map lsA).isEmpty) (L.map lsA ++ q.map lsA), Blk.dead] := by
        rw [List.map_append]
        congr 2
        cases L <;> cases q <;> rfl
      have hLl : (L.map lsA).length = L.length := List.length_map _
      have hfl : (ints (begun ++ [(n : Int)])).length = (ints begun).length + 1 := by rw [ints_len, ints_len, List.length_append]; rfl
      repeat' first | ((with_reducible apply XBr.dec) <;> (intro h; first | (exfalso; omega) | ((try simp only [List.length_map] at h); first | (exfalso; omega) | (conv => whnf)))) | fail
      apply Walk.drawX tab_ok mixed_ok [23] [2, 4, 7, 8, 9] (hsC [[.grow 27 L.isEmpty (L.map lsA)],
        [.grow 27 L.isEmpty (L.map lsA), .grow 3 false []],
        [.grow 27 L.isEmpty (L.map lsA), .grow 3 false (ints begun)],
        [.grow 27 L.isEmpty (L.map lsA), .grow 3 false (ints (begun ++ [(n : Int)]))],
        [.grow 27 L.isEmpty (L.map lsA), .dead],
        [.grow 27 (L ++ q).isEmpty ((L ++ q).map lsA), .dead]]) [_, _, _, _, _, _, _, _, _, _, _] (by kernel_rfl) rfl
      · skip
        repeat' first | ((with_reducible refine XHold.mk ?_ ?_); (first | omega | rfl | decide | exact ⟨rfl, by decide, rfl⟩ | exact wideI _ | exact widePr _ | exact wideSk _ | (unfold Room; constructor <;> ((try simp) <;> omega)) | exact ⟨rfl, by simp only [List.length_map], by unfold Room; constructor <;> ((try simp) <;> omega)⟩ | exact ⟨by omega, by omega, by unfold Room; constructor <;> ((try simp) <;> omega)⟩); conv => whnf) | (with_reducible apply XAnd.mk) | ((first | (with_reducible apply Chk.go) | (with_reducible apply ChkA.go)); conv => whnf) | (exact XSame.mk rfl rfl) | (exact XSame.mk (by first | rfl | (simp only [List.map_append, List.length_append, List.length_map]; done) | (simp only [List.map_append, List.length_append, List.length_map]; rfl)) (by first | rfl | (simp only [List.map_append]; done) | (simp only [List.map_append]; rfl))) | (with_reducible exact trivial) | ((first | ((refine XCall.freeze 1 (0 + (ints begun).length + 1) rfl (by rw [hfl]; omega) (.same (.gr .nil)) ?_); (refine XCall.ret hih ?_)) | (refine XHold.mk (wideLs _) ?_)); conv => whnf) | (first | exact XSame.mk rfl hap | exact XSame.mk rfl hap.symm) | fail
      · skip
        repeat' first | ((with_reducible refine XHold.mk ?_ ?_); (first | omega | rfl | decide | exact ⟨rfl, by decide, rfl⟩ | exact wideI _ | exact widePr _ | exact wideSk _ | (unfold Room; constructor <;> ((try simp) <;> omega)) | exact ⟨rfl, by simp only [List.length_map], by unfold Room; constructor <;> ((try simp) <;> omega)⟩ | exact ⟨by omega, by omega, by unfold Room; constructor <;> ((try simp) <;> omega)⟩); conv => whnf) | (with_reducible apply XAnd.mk) | ((first | (with_reducible apply Chk.go) | (with_reducible apply ChkF.go) | (with_reducible apply ChkB.go)); conv => whnf) | (exact XSame.mk rfl rfl) | (with_reducible exact trivial) | fail
      conv => whnf
      repeat' first | ((with_reducible refine XInt.i64 (by omega) (by omega) ?_); conv => whnf) | fail
      refine XAgainG.go (n + 1) [.dead] (by omega) (by omega) ?_ ⟨rfl, rfl, rfl, ?_, rfl, trivial⟩
      · rw [hgs]; rfl
      · show some (AV.gr 0 (L.length + (q.map lsA).length)) = some (AV.gr 0 (goL b.room.toNat k begun (n + 1)).length)
        rw [hgs, List.length_append, List.length_map]
    · obtain rfl : n = b.room.toNat + 1 := by omega
      have hga := goL_all b.room.toNat k begun
      have hne : (goL b.room.toNat k begun (b.room.toNat + 1)).isEmpty = false := by
        cases hg : goL b.room.toNat k begun (b.room.toNat + 1) with
        | nil =>
          rw [hg] at hgl
          have : 0 < (b.room.toNat + 1) * (b.room.toNat + 1) ^ k := Nat.mul_pos (by omega) (Nat.pow_pos (by omega))
          simp only [List.length_nil] at hgl
          omega
        | cons x l => rfl
      rw [← hga]
      have hz := Froz.grow (P := Try.prog) (H := [.grow 27 (goL b.room.toNat k begun (b.room.toNat + 1)).isEmpty ((goL b.room.toNat k begun (b.room.toNat + 1)).map lsA)]) (i := 0) (n := (goL b.room.toNat k begun (b.room.toNat + 1)).length) rfl (List.length_map _) (lss_low _)
      rw [hne] at hz
      repeat' first | ((with_reducible apply XBr.dec) <;> (intro h; first | (exfalso; omega) | ((try simp only [List.length_map] at h); first | (exfalso; omega) | (conv => whnf)))) | fail
      rw [hne]
      exact ⟨hz⟩
theorem wide04_c (b : Bd) (r m s : Int) : Comp Try.prog 47 [bedA b, .int .i64 r, .int .i64 m, .int .i64 s] (.bool (decide (r < b.room ∧ b.room ≤ 120 ∨ m < b.months.length ∧ (b.months.length : Int) ≤ 10 ∨ s < b.surveys.length ∧ (b.surveys.length : Int) ≤ 8))) := by
  have e1 : ((b.months.map moA).length : Int) = b.months.length := by rw [List.length_map]
  have e2 : ((b.surveys.map suA).length : Int) = b.surveys.length := by rw [List.length_map]
  refine Comp.body (T := tab) (res := [.tmp 8]) tab_ok [] Try.func47 rfl (by kernel_rfl) Try.ntmps47 rfl (by simp only [List.length_cons, List.length_nil]; decide) (by simp only [lowL, bedL, AV.low]; rfl) ?_; conv => whnf
  refine Walk.norm tab_ok [] [(1, _), (2, _), (3, _), (4, _), (8, _)] ⟨rfl, rfl, rfl, rfl, rfl, trivial⟩ ?_
  conv => whnf
  repeat' first | ((first | (with_reducible apply XBr.tt) | (with_reducible apply XBr.ff)); conv => whnf) | ((with_reducible apply XBr.dec) <;> (intro h; first | (exfalso; omega) | ((try simp only [List.length_map] at h); first | (exfalso; omega) | (conv => whnf)))) | fail
  all_goals
    refine XOut.bool ?_
    rw [Bool.eq_iff_iff]
    simp only [decide_eq_true_eq, Bool.true_eq_false, Bool.false_eq_true, true_iff, false_iff, iff_true, iff_false]
    omega
end GA
end

section
namespace GA
open Go Go.RowKit Go.Proofs
set_option pp.deepTerms true
set_option maxRecDepth 8000
set_option linter.unusedVariables false
set_option linter.unusedSimpArgs false

set_option maxHeartbeats 1000000 in
theorem mostS_c (b : Bd) (share : Int) (hE : bedE b = 0) (hsh : 0 ≤ share ∧ share ≤ b.room) : Comp Try.prog 50 [bedA b, .int .i64 share] (mostA b share) := by
  have okk := (bedE_iff b).1 hE
  have ok := okk.toBedOk
  have hsd := bShared_c b share (by have := ok.m2; omega) (by have := okk.s1; omega)
  unfold bSharedA at hsd
  rw [if_pos hE, bShareE_iff.2 ⟨okk, hsh⟩] at hsd
  have m1 := ok.m1
  have m2 := ok.m2
  have r1 := ok.r1
  have r2 := ok.r2
  have hi : inZ share 0 b.room = true := inZ_iff.2 hsh
  have e1 : ((b.months.map moA).length : Int) = b.months.length := by rw [List.length_map]
  refine Comp.body (T := tab) (res := [.tmp 4, .tmp 5]) tab_ok [] Try.func50 rfl (by kernel_rfl) Try.ntmps50 rfl (by simp only [List.length_cons, List.length_nil]; decide) (by simp only [lowL, bedL, AV.low]; rfl) ?_; conv => whnf
  refine XCall.ret hsd ?_
  conv => whnf
  repeat' first | ((with_reducible apply XBr.bne) <;> (intro h; first | (exfalso; omega) | (conv => whnf))) | ((with_reducible refine XInt.i64 (by omega) (by omega) ?_); conv => whnf) | ((with_reducible refine XHold.mk ?_ ?_); (first | omega | rfl | decide | exact ⟨rfl, by decide, rfl⟩ | exact wideI _ | exact widePr _ | exact wideSk _ | (unfold Room; constructor <;> ((try simp) <;> omega)) | exact ⟨rfl, by simp only [List.length_map], by unfold Room; constructor <;> ((try simp) <;> omega)⟩ | exact ⟨by omega, by omega, by unfold Room; constructor <;> ((try simp) <;> omega)⟩); conv => whnf) | fail
  refine Walk.loop tab_ok [] (fun g : Nat × List (List Int) => g.1 ≤ 121 ∧ RowsOk g.2 (b.months.length + 1) 121 ∧ ∀ q, q < g.1 → cellAt g.2 b.months.length q = valM b share 0 q)
    (fun g => [(1, .int .i64 share), (2, .pim (bedC b)), (4, .sl true []), (5, .int .i64 0), (6, dskA b), (8, .gr 0 (b.months.length + 1)), (35, natA g.1)]) (fun g => [.grow 186 false (g.2.map arrA)]) (fun g => 121 - g.1) (0, List.replicate (b.months.length + 1) (List.replicate 121 0)) ⟨Nat.zero_le _, ⟨by simp, fun r hr => by rw [List.eq_of_mem_replicate hr]; simp⟩, fun q hq => by omega⟩ ?_ ⟨rfl, rfl, rfl, rfl, rfl, ?_, rfl, trivial⟩ ?_
  · show _ = [Blk.grow 186 false (List.replicate (((b.months.map moA).length : Int) + 1).toNat (AV.agg (List.replicate 121 (AV.int .i64 0))))]
    rw [show (((b.months.map moA).length : Int) + 1).toNat = b.months.length + 1 by omega, List.map_replicate]
    rfl
  · exact congrArg (fun n => some (AV.gr 0 n)) (by omega)
  rintro ⟨n, rows⟩ ⟨hn, ro, hv⟩
  dsimp only at hn ro hv ⊢
  have ro1 := ro.put b.months.length n (-1) (by omega)
  have c1 := fun (h : n < 121) => cellAt_put ro (-1) (show b.months.length < b.months.length + 1 by omega) h
  have c2 := fun (h : n < 121) => cellAt_put ro1 0 (show b.months.length < b.months.length + 1 by omega) h
  conv => whnf
  repeat' first | ((with_reducible apply XBr.dec) <;> (intro h; first | (exfalso; omega) | ((try simp only [List.length_map] at h); first | (exfalso; omega) | (conv => whnf)))) | ((first | (with_reducible refine XInt.i64 (by omega) (by omega) ?_) | (refine XHold.mk ⟨by rw [List.length_map]; first | exact ro.n | exact ro1.n, rfl, by omega, by omega⟩ ?_) | (refine XArr.mk (by omega) (by omega) ?_) | (refine XStorePart ?_) | (refine XPutPart.rows (w := 121) rows b.months.length n (by omega) rfl ro.n.symm (by omega) (ro.at (by omega)) (by omega) (by omega) ?_) | (refine XPutPart.rows (w := 121) _ b.months.length n (by omega) rfl ro1.n.symm (by omega) (ro1.at (by omega)) (by omega) (by omega) ?_)); conv => whnf) | fail
  · refine XAgain.go (n + 1, putC (putC rows b.months.length n (-1)) b.months.length n 0) ⟨by dsimp only; omega, ro1.put _ _ _ (by omega), fun q hq => ?_⟩ (by dsimp only; omega) rfl ⟨rfl, rfl, rfl, rfl, rfl, rfl, rfl, trivial⟩
    dsimp only at hq ⊢
    rw [c2 (by omega)]
    by_cases hqn : q = n
    · rw [if_pos ⟨rfl, hqn⟩, hqn]; unfold valM; rw [if_pos h]
    · rw [if_neg (fun h => hqn h.2), c1 (by omega), if_neg (fun h => hqn h.2), hv q (by omega)]
  · refine XAgain.go (n + 1, putC rows b.months.length n (-1)) ⟨by dsimp only; omega, ro1, fun q hq => ?_⟩ (by dsimp only; omega) rfl ⟨rfl, rfl, rfl, rfl, rfl, rfl, rfl, trivial⟩
    dsimp only at hq ⊢
    rw [c1 (by omega)]
    by_cases hqn : q = n
    · rw [if_pos ⟨rfl, hqn⟩, hqn]; unfold valM; rw [if_neg h]
    · rw [if_neg (fun h => hqn h.2), hv q (by omega)]
  clear ro1 c1 c2
  obtain rfl : n = 121 := by omega
  refine Walk.loop tab_ok [] (fun g : Nat × List (List Int) => g.1 ≤ b.months.length ∧ RowsOk g.2 (b.months.length + 1) 121 ∧ ∀ i, i ≤ g.1 → ∀ q : Nat, (q : Int) ≤ b.room → cellAt g.2 (b.months.length - i) q = valM b share i q)
    (fun g => [(2, .pim (bedC b)), (4, .sl true []), (5, .int .i64 0), (6, dskA b), (8, .gr 0 (b.months.length + 1)), (10, .int .i64 (((b.months.map moA).length : Int) - 1 - g.1))]) (fun g => [.grow 186 false (g.2.map arrA)]) (fun g => b.months.length - g.1) (0, rows)
    ⟨Nat.zero_le _, ro, fun i hi q hq => by obtain rfl : i = 0 := by { dsimp only at hi; omega }; exact hv q (by omega)⟩ rfl ⟨rfl, rfl, rfl, rfl, rfl, congrArg (fun z => some (AV.int .i64 z)) (by dsimp only; omega), trivial⟩ ?_
  clear hv ro
  rintro ⟨k, rows⟩ ⟨hk, ro, hv⟩
  dsimp only at hk ro hv ⊢
  conv => whnf
  repeat' first | ((with_reducible apply XBr.dec) <;> (intro h; first | (exfalso; omega) | ((try simp only [List.length_map] at h); first | (exfalso; omega) | (conv => whnf)))) | ((with_reducible refine XInt.i64 (by omega) (by omega) ?_); conv => whnf) | fail
  · obtain ⟨j, hj⟩ : ∃ j, j = b.months.length - (k + 1) := ⟨_, rfl⟩
    have hj1 : j + 1 = b.months.length - k := by omega
    have hjm := ok.mo _ (getD_mem (d := default) (show j < b.months.length by omega))
    refine Walk.loop tab_ok [] (fun g : Nat × List (List Int) => (g.1 : Int) ≤ b.room + 1 ∧ RowsOk g.2 (b.months.length + 1) 121 ∧ (∀ i, i ≤ k → ∀ q : Nat, (q : Int) ≤ b.room → cellAt g.2 (b.months.length - i) q = valM b share i q) ∧ ∀ q, q < g.1 → cellAt g.2 j q = valM b share (k + 1) q)
      (fun g => [(2, .pim (bedC b)), (4, .sl true []), (5, .int .i64 0), (6, dskA b), (8, .gr 0 (b.months.length + 1)), (10, natA j), (66, .int .i64 (b.room + 1)), (67, natA g.1)]) (fun g => [.grow 186 false (g.2.map arrA)]) (fun g => b.room.toNat + 1 - g.1) (0, rows)
      ⟨by dsimp only; omega, ro, hv, fun q hq => by dsimp only at hq; omega⟩ rfl ⟨rfl, rfl, rfl, rfl, rfl, congrArg (fun z => some (AV.int .i64 z)) (by omega), rfl, rfl, trivial⟩ ?_
    clear hv ro
    rintro ⟨n, rows⟩ ⟨hn, ro, hv, hw⟩
    dsimp only at hn ro hv hw ⊢
    have ro1 := ro.put j n (-1) (by omega)
    have c1 := fun (h : n < 121) => cellAt_put ro (-1) (show j < b.months.length + 1 by omega) h
    have hgr := fun (h : n < 121) => gross_c b j n (b.months.getD j default).pl (b.months.getD j default).th (by omega) (by omega) (by omega) (by omega) (by omega) (by omega) (by omega) (by omega) (by omega) (by omega) (by omega)
    have hlb := lieR_b ok (j := j) (n := n) (by omega)
    conv => whnf
    repeat' first | ((with_reducible apply XBr.dec) <;> (intro h; first | (exfalso; omega) | ((try simp only [List.length_map] at h); first | (exfalso; omega) | (conv => whnf)))) | ((first | (with_reducible refine XInt.i64 (by omega) (by omega) ?_) | (refine XHold.mk ⟨by rw [List.length_map]; first | exact ro.n | exact ro1.n, rfl, by omega, by omega⟩ ?_) | (refine XArr.mk (by omega) (by omega) ?_) | (refine XStorePart ?_) | (refine XPutPart.rows (w := 121) rows j n (by omega) rfl ro.n.symm (by omega) (ro.at (by omega)) (by omega) (by omega) ?_)); conv => whnf) | fail
    · have hgc := hgr (by omega)
      change Comp Try.prog _ _ (.int .i64 (lieR b j n)) at hgc
      apply Walk.drawX tab_ok mixed_ok [] [] (hsK _) [_, _, _, _, _, _, _, _, _, _, _, _, _, _] (by kernel_rfl) rfl
      · skip
        repeat' first | (((with_reducible refine XIx.nat ?_ ?_ ?_); omega; (intro _; rfl)); conv => whnf) | (with_reducible apply XAnd.mk) | ((first | (with_reducible apply Chk.go) | (with_reducible apply ChkA.go)); conv => whnf) | (exact XSame.mk rfl rfl) | (with_reducible exact trivial) | ((first | (refine XCall.ret (worst_c (b.months.getD j default)) ?_) | (refine XCall.ret hgc ?_)); conv => whnf) | fail
      · skip
        repeat' first | (with_reducible apply XAnd.mk) | ((first | (with_reducible apply ChkF.go) | (with_reducible apply ChkB.go)); conv => whnf) | (with_reducible exact trivial) | fail
      conv => whnf
      repeat' first | ((with_reducible refine XInt.i64 (by omega) (by omega) ?_); conv => whnf) | fail
      obtain ⟨li, hli⟩ : ∃ li : Nat, lieR b j n = li := ⟨(lieR b j n).toNat, by omega⟩
      have hstep : valM b share (k + 1) n = stepM (valM b share k) li (li + 1) := by
        show stepM _ (lieR b (b.months.length - (k + 1)) n).toNat ((lieR b (b.months.length - (k + 1)) n).toNat + 1) = _
        rw [← hj, hli]; rfl
      rw [hli] at hlb ⊢
      have c1' := c1 (by omega)
      refine Walk.loop tab_ok [] (fun g : Nat × List (List Int) => g.1 ≤ li + 1 ∧ RowsOk g.2 (b.months.length + 1) 121 ∧ (∀ i, i ≤ k → ∀ q : Nat, (q : Int) ≤ b.room → cellAt g.2 (b.months.length - i) q = valM b share i q) ∧ (∀ q, q < n → cellAt g.2 j q = valM b share (k + 1) q) ∧ cellAt g.2 j n = stepM (valM b share k) li g.1)
        (fun g => [(2, .pim (bedC b)), (4, .sl true []), (5, .int .i64 0), (6, dskA b), (8, .gr 0 (b.months.length + 1)), (10, natA j), (11, natA n), (12, natA li), (66, .int .i64 (b.room + 1)), (67, natA n), (89, .int .i64 ((li : Int) + 1)), (90, natA g.1)]) (fun g => [.grow 186 false (g.2.map arrA)]) (fun g => li + 1 - g.1) (0, putC rows j n (-1))
        ⟨Nat.zero_le _, ro1, fun i hi q hq => by dsimp only; rw [c1', if_neg (by omega), hv i hi q hq], fun q hq => by dsimp only; rw [c1', if_neg (by omega), hw q hq], by dsimp only; rw [c1', if_pos ⟨rfl, rfl⟩]; rfl⟩ rfl ⟨rfl, rfl, rfl, rfl, rfl, rfl, rfl, rfl, rfl, rfl, rfl, rfl, trivial⟩ ?_
      clear hv ro hw c1 c1' ro1 hgr
      rintro ⟨r, rows⟩ ⟨hr, ro, hv, hw, hc⟩
      dsimp only at hr ro hv hw hc ⊢
      have hnx := fun (h : r ≤ li) => hv k (Nat.le_refl k) (li - r) (by omega)
      have hnb := valM_b ok share k (by omega) (li - r)
      have hsb := stepM_b (nx := valM b share k) (lies := li) (c := 120 * k) (fun q _ => valM_b ok share k (by omega) q) r (by omega)
      have hst : stepM (valM b share k) li (r + 1) = if valM b share k (li - r) = -1 then stepM (valM b share k) li r else max (stepM (valM b share k) li r) (r + valM b share k (li - r)) := rfl
      have hvx := fun (h : r ≤ li) => (show (rows.getD ((j : Int) + 1).toNat default).getD (li - r) default = valM b share k (li - r) by rw [show ((j : Int) + 1).toNat = b.months.length - k by omega]; exact hnx h)
      have cp := fun v => cellAt_put ro v (show j < b.months.length + 1 by omega) (show n < 121 by omega)
      conv => whnf
      repeat' first | ((with_reducible apply XBr.dec) <;> (intro h; first | (exfalso; omega) | ((try simp only [List.length_map] at h); first | (exfalso; omega) | (conv => whnf)))) | ((with_reducible apply XBr.bne) <;> (intro h; first | (exfalso; omega) | (conv => whnf))) | ((first | (with_reducible refine XInt.i64 (by omega) (by omega) ?_) | (refine XHold.mk ⟨by rw [List.length_map]; exact ro.n, rfl, by omega, by omega⟩ ?_) | (refine XArr.mk (by omega) (by omega) ?_) | (refine XGet.map ro.n.symm (by omega) ?_) | (refine xdrop_ints (li - r) (by omega) (by rw [ro.at (by omega)]; omega) ?_)); conv => whnf) | fail
      · have hv1 := hvx (by omega)
        have hv2 : -1 ≤ (rows.getD ((j : Int) + 1).toNat default).getD (li - r) default ∧ (rows.getD ((j : Int) + 1).toNat default).getD (li - r) default ≤ 120 * k := by rw [hv1]; exact hnb
        apply Walk.drawX tab_ok mixed_ok [] [16] (hsV _ [id, fun H => H.set 0 (.grow 186 false ((putC rows j n (max ((rows.getD j default).getD n default) ((r : Int) + (rows.getD ((j : Int) + 1).toNat default).getD (li - r) default))).map arrA))]) [_, _, _, _, _, _, _, _, _, _, _, _, _, _, _, _, _] (by kernel_rfl) rfl
        · skip
          repeat' first | ((with_reducible refine XInt.i64 (by omega) (by omega) ?_); conv => whnf) | ((with_reducible refine XHold.mk ?_ ?_); (first | omega | rfl | decide | exact ⟨rfl, by decide, rfl⟩ | exact wideI _ | exact widePr _ | exact wideSk _ | (unfold Room; constructor <;> ((try simp) <;> omega)) | exact ⟨rfl, by simp only [List.length_map], by unfold Room; constructor <;> ((try simp) <;> omega)⟩ | exact ⟨by omega, by omega, by unfold Room; constructor <;> ((try simp) <;> omega)⟩); conv => whnf) | (with_reducible apply XAnd.mk) | ((first | (with_reducible apply Chk.go) | (with_reducible apply ChkA.go)); conv => whnf) | (exact XSame.mk rfl rfl) | (with_reducible exact trivial) | ((first | (refine XHold.mk ⟨by rw [List.length_map]; first | exact ro.n | exact (ro.put j n _ (by omega)).n, rfl, by omega, by omega⟩ ?_) | (refine XArr.mk (by omega) (by omega) ?_) | (refine XGet.map ro.n.symm (by omega) ?_) | (refine xdrop_ints n (by omega) (by rw [ro.at (by omega)]; omega) ?_) | (refine XCall.ret (bedGreatest_c _ false [_] (by simp)) ?_) | (refine XStorePart ?_) | (refine XPutPart.rows (w := 121) rows j n (by omega) rfl ro.n.symm (by omega) (ro.at (by omega)) (by omega) (by omega) ?_)); conv => whnf) | fail
        · skip
          repeat' first | (with_reducible apply XAnd.mk) | ((first | (with_reducible apply Chk.go) | (with_reducible apply ChkF.go) | (with_reducible apply ChkB.go)); conv => whnf) | (exact XSame.mk rfl rfl) | (with_reducible exact trivial) | ((refine XHold.mk ⟨by rw [List.length_map]; first | exact ro.n | exact (ro.put j n _ (by omega)).n, rfl, by omega, by omega⟩ ?_); conv => whnf) | fail
        conv => whnf
        repeat' first | ((with_reducible refine XInt.i64 (by omega) (by omega) ?_); conv => whnf) | fail
        have hcv : max ((rows.getD j default).getD n default) ((r : Int) + (rows.getD ((j : Int) + 1).toNat default).getD (li - r) default) = stepM (valM b share k) li (r + 1) := by
          rw [hst, if_neg (by rw [← hv1]; exact h), hv1, ← hc]; rfl
        refine XAgain.go (r + 1, putC rows j n (max ((rows.getD j default).getD n default) ((r : Int) + (rows.getD ((j : Int) + 1).toNat default).getD (li - r) default))) ⟨by dsimp only; omega, ro.put _ _ _ (by omega), fun i hi q hq => ?_, fun q hq => ?_, ?_⟩ (by dsimp only; omega) rfl ⟨rfl, rfl, rfl, rfl, rfl, rfl, rfl, rfl, rfl, rfl, rfl, rfl, trivial⟩
        · dsimp only; rw [cp, if_neg (by omega), hv i hi q hq]
        · dsimp only; rw [cp, if_neg (by omega), hw q hq]
        · dsimp only; rw [cp, if_pos ⟨rfl, rfl⟩, hcv]
      · refine XAgain.go (r + 1, rows) ⟨by dsimp only; omega, ro, hv, hw, ?_⟩ (by dsimp only; omega) rfl ⟨rfl, rfl, rfl, rfl, rfl, rfl, rfl, rfl, rfl, rfl, rfl, rfl, trivial⟩
        dsimp only
        rw [hc, hst, if_pos (by rw [← hvx (by omega)]; exact h)]
      · obtain rfl : r = li + 1 := by omega
        refine XAgain.go (n + 1, rows) ⟨by dsimp only; omega, ro, hv, fun q hq => ?_⟩ (by dsimp only; omega) rfl ⟨rfl, rfl, rfl, rfl, rfl, rfl, rfl, rfl, trivial⟩
        dsimp only at hq ⊢
        by_cases hqn : q = n
        · rw [hqn, hc, hstep]
        · exact hw q (by omega)
    · have hn1 : (n : Int) = b.room + 1 := by omega
      refine XAgain.go (k + 1, rows) ⟨by dsimp only; omega, ro, fun i hi q hq => ?_⟩ (by dsimp only; omega) rfl ⟨rfl, rfl, rfl, rfl, rfl, congrArg (fun z => some (AV.int .i64 z)) (by dsimp only; omega), trivial⟩
      dsimp only at hi ⊢
      by_cases hik : i = k + 1
      · rw [hik, ← hj]; exact hw q (by omega)
      · exact hv i (by omega) q hq
  · obtain rfl : k = b.months.length := by omega
    have hle := least_c b ok.f1 (by have := ok.f2; omega) ok.u1 (by have := ok.u2; omega)
    obtain ⟨a0, ha0⟩ : ∃ a0 : Nat, leastR b = a0 := ⟨(leastR b).toNat, by unfold leastR; omega⟩
    have ha1 : (a0 : Int) ≤ b.room := by rw [← ha0]; unfold leastR; have := ok.f2; have := ok.u1; omega
    have hv0 : (rows.getD 0 default).getD a0 default = valM b share b.months.length a0 := by
      have := hv b.months.length (Nat.le_refl _) a0 ha1
      rw [Nat.sub_self] at this; exact this
    unfold mostA
    rw [ha0, Int.toNat_natCast]
    rw [ha0] at hle
    repeat' first | ((with_reducible apply XBr.beq) <;> (intro h; first | (exfalso; omega) | (conv => whnf))) | ((first | (refine XCall.ret hle ?_) | (refine XHold.mk ⟨by rw [List.length_map]; exact ro.n, rfl, by omega, by omega⟩ ?_) | (refine XArr.mk (by omega) (by omega) ?_) | (refine XGet.map ro.n.symm (by omega) ?_) | (refine xdrop_ints a0 (by omega) (by rw [ro.at (by omega)]; omega) ?_)); conv => whnf) | fail
    · rw [if_pos (by rw [← hv0]; exact h)]; exact ⟨.low rfl⟩
    rw [if_neg (by rw [← hv0]; exact h)]
    refine Walk.nilgr 16 3 rfl ?_
    refine Walk.loop tab_ok [] (fun g : Nat × Nat × List Int => g.1 ≤ b.months.length ∧ (g.2.1 : Int) ≤ b.room ∧ g.2.2 ++ planM b share (b.months.length - g.1) g.2.1 = planM b share b.months.length a0 ∧ g.2.2.length ≤ g.1)
      (fun g => [(2, .pim (bedC b)), (4, .sl true []), (5, .int .i64 0), (6, dskA b), (8, .gr 0 (b.months.length + 1)), (15, natA g.2.1), (16, .gr 1 g.2.2.length), (132, .int .i64 (b.months.map moA).length), (133, natA g.1)])
      (fun g => [.grow 186 false (rows.map arrA), .grow 3 g.2.2.isEmpty (ints g.2.2)]) (fun g => b.months.length - g.1) (0, a0, []) ⟨Nat.zero_le _, ha1, rfl, Nat.le_refl _⟩ rfl ⟨rfl, rfl, rfl, rfl, rfl, rfl, rfl, rfl, rfl, trivial⟩ ?_
    clear hv0 h
    rintro ⟨m, a, out⟩ ⟨hm, ham, hpl, hol⟩
    dsimp only at hm ham hpl hol ⊢
    conv => whnf
    repeat' first | ((with_reducible apply XBr.dec) <;> (intro h; first | (exfalso; omega) | ((try simp only [List.length_map] at h); first | (exfalso; omega) | (conv => whnf)))) | fail
    · have hjm := ok.mo _ (getD_mem (d := default) (show m < b.months.length by omega))
      obtain ⟨k, hkm⟩ : ∃ k, b.months.length - m = k + 1 := ⟨b.months.length - m - 1, by omega⟩
      have hmk : b.months.length - (k + 1) = m := by omega
      have hgc := gross_c b m a (b.months.getD m default).pl (b.months.getD m default).th (by omega) (by omega) (by omega) (by omega) (by omega) (by omega) (by omega) (by omega) (by omega) (by omega) (by omega)
      change Comp Try.prog _ _ (.int .i64 (lieR b m a)) at hgc
      have hlb := lieR_b ok (j := m) (n := a) (by omega)
      apply Walk.drawX tab_ok mixed_ok [] [] (hsK _) [_, _, _, _, _, _, _, _, _, _, _, _, _, _] (by kernel_rfl) rfl
      · skip
        repeat' first | (((with_reducible refine XIx.nat ?_ ?_ ?_); omega; (intro _; rfl)); conv => whnf) | (with_reducible apply XAnd.mk) | ((first | (with_reducible apply Chk.go) | (with_reducible apply ChkA.go)); conv => whnf) | (exact XSame.mk rfl rfl) | (with_reducible exact trivial) | ((first | (refine XCall.ret (worst_c (b.months.getD m default)) ?_) | (refine XCall.ret hgc ?_)); conv => whnf) | fail
      · skip
        repeat' first | (with_reducible apply XAnd.mk) | ((first | (with_reducible apply ChkF.go) | (with_reducible apply ChkB.go)); conv => whnf) | (with_reducible exact trivial) | fail
      conv => whnf
      repeat' first | ((with_reducible refine XInt.i64 (by omega) (by omega) ?_); conv => whnf) | fail
      obtain ⟨li, hli⟩ : ∃ li : Nat, lieR b m a = li := ⟨(lieR b m a).toNat, by omega⟩
      have hps := fun r => planM_some (b := b) (share := share) (k := k) (a := a) (lies := li) (r := r) (by rw [hmk]; exact hli)
      have hpn := planM_none (b := b) (share := share) (k := k) (a := a) (lies := li) (by rw [hmk]; exact hli)
      rw [hkm] at hpl
      rw [hli] at hlb ⊢
      refine Walk.loop tab_ok [] (fun r : Nat => r ≤ li + 1 ∧ ∀ q, q < r → rakeM (valM b share k) li (valM b share (k + 1) a) q = false)
        (fun r => [(2, .pim (bedC b)), (4, .sl true []), (5, .int .i64 0), (6, dskA b), (8, .gr 0 (b.months.length + 1)), (15, natA a), (16, .gr 1 out.length), (17, natA m), (18, natA li), (132, .int .i64 (b.months.map moA).length), (133, natA m), (150, .int .i64 ((li : Int) + 1)), (151, natA r)])
        (fun _ => [.grow 186 false (rows.map arrA), .grow 3 out.isEmpty (ints out)]) (fun r => li + 1 - r) 0 ⟨Nat.zero_le _, fun q hq => by omega⟩ rfl ⟨rfl, rfl, rfl, rfl, rfl, rfl, rfl, rfl, rfl, rfl, rfl, rfl, rfl, trivial⟩ ?_
      rintro r ⟨hr, hno⟩
      have hnx := fun (h : r ≤ li) => (show (rows.getD ((m : Int) + 1).toNat default).getD (li - r) default = valM b share k (li - r) by rw [show ((m : Int) + 1).toNat = b.months.length - k by omega]; exact hv k (by omega) (li - r) (by omega))
      have hnb := valM_b ok share k (by omega) (li - r)
      have hva : (rows.getD m default).getD a default = valM b share (k + 1) a := by
        have := hv (k + 1) (by omega) a ham
        rw [hmk] at this; exact this
      have hrk : rakeM (valM b share k) li (valM b share (k + 1) a) r = (valM b share k (li - r) != -1 && ((r : Int) + valM b share k (li - r) == valM b share (k + 1) a)) := rfl
      have hvb : r ≤ li → -1 ≤ (rows.getD ((m : Int) + 1).toNat default).getD (li - r) default ∧ (rows.getD ((m : Int) + 1).toNat default).getD (li - r) default ≤ 120 * k := fun h => by rw [hnx h]; exact hnb
      conv => whnf
      repeat' first | ((first | (with_reducible apply XBr.tt) | (with_reducible apply XBr.ff)); conv => whnf) | ((with_reducible apply XBr.dec) <;> (intro h; first | (exfalso; omega) | ((try simp only [List.length_map] at h); first | (exfalso; omega) | (conv => whnf)))) | ((with_reducible apply XBr.beq) <;> (intro h; first | (exfalso; omega) | (conv => whnf))) | ((with_reducible apply XBr.bne) <;> (intro h; first | (exfalso; omega) | (conv => whnf))) | ((with_reducible refine XInt.i64 (by omega) (by omega) ?_); conv => whnf) | ((with_reducible refine XHold.mk ?_ ?_); (first | omega | rfl | decide | exact ⟨rfl, by decide, rfl⟩ | exact wideI _ | exact widePr _ | exact wideSk _ | (unfold Room; constructor <;> ((try simp) <;> omega)) | exact ⟨rfl, by simp only [List.length_map], by unfold Room; constructor <;> ((try simp) <;> omega)⟩ | exact ⟨by omega, by omega, by unfold Room; constructor <;> ((try simp) <;> omega)⟩); conv => whnf) | ((first | (refine XHold.mk ⟨by rw [List.length_map]; exact ro.n, rfl, by omega, by omega⟩ ?_) | (refine XArr.mk (by omega) (by omega) ?_) | (refine XGet.map ro.n.symm (by omega) ?_) | (refine xdrop_ints (li - r) (by omega) (by rw [ro.at (by omega)]; omega) ?_) | (refine xdrop_ints a (by omega) (by rw [ro.at (by omega)]; omega) ?_)); conv => whnf) | fail
      · rename_i h1 h2
        have h3 : (r : Int) + (rows.getD ((m : Int) + 1).toNat default).getD (li - r) default = (rows.getD m default).getD a default := h
        rw [hnx (by omega)] at h2 h3
        have hr1 : rakeM (valM b share k) li (valM b share (k + 1) a) r = true := by rw [hrk, ← hva, h3]; simp [h2]
        refine XAgain.go (m + 1, li - r, out ++ [(r : Int)]) ⟨by dsimp only; omega, by dsimp only; omega, ?_, by dsimp only; rw [List.length_append]; simp; omega⟩ (by dsimp only; omega) ?_ ⟨rfl, rfl, rfl, rfl, rfl, congrArg (fun z => some (AV.int .i64 z)) (by dsimp only; omega), ?_, rfl, rfl, trivial⟩
        · dsimp only
          rw [← hpl, hps r (by omega) hr1 hno, show b.months.length - (m + 1) = k by omega, List.append_assoc]; rfl
        · show [Blk.grow 186 false (rows.map arrA), Blk.grow 3 (out ++ [(r : Int)]).isEmpty (List.map (AV.int .i64) (out ++ [(r : Int)]))] = _
          rw [isEmpty_app, List.map_append]
          rfl
        · show some (AV.gr 1 (out.length + 1)) = some (AV.gr 1 (out ++ [(r : Int)]).length)
          rw [List.length_append]; rfl
      · rename_i h1 h2
        have h3 : (r : Int) + (rows.getD ((m : Int) + 1).toNat default).getD (li - r) default ≠ (rows.getD m default).getD a default := h
        rw [hnx (by omega)] at h2 h3
        have hr1 : rakeM (valM b share k) li (valM b share (k + 1) a) r = false := by rw [hrk, ← hva, beq_eq_false_iff_ne.2 h3, Bool.and_false]
        refine XAgain.go (r + 1) ⟨by omega, fun q hq => ?_⟩ (by omega) rfl ⟨rfl, rfl, rfl, rfl, rfl, rfl, rfl, rfl, rfl, rfl, rfl, rfl, rfl, trivial⟩
        by_cases hqr : q = r
        · rw [hqr]; exact hr1
        · exact hno q (by omega)
      · rw [hnx (by omega)] at h
        have hr1 : rakeM (valM b share k) li (valM b share (k + 1) a) r = false := by rw [hrk, h]; rfl
        refine XAgain.go (r + 1) ⟨by omega, fun q hq => ?_⟩ (by omega) rfl ⟨rfl, rfl, rfl, rfl, rfl, rfl, rfl, rfl, rfl, rfl, rfl, rfl, rfl, trivial⟩
        by_cases hqr : q = r
        · rw [hqr]; exact hr1
        · exact hno q (by omega)
      · refine XAgain.go (m + 1, a, out) ⟨by dsimp only; omega, ham, ?_, by dsimp only; omega⟩ (by dsimp only; omega) rfl ⟨rfl, rfl, rfl, rfl, rfl, rfl, rfl, rfl, rfl, trivial⟩
        dsimp only
        rw [← hpl, hpn fun q hq => hno q (by omega), show b.months.length - (m + 1) = k by omega]
    · obtain rfl : m = b.months.length := by omega
      rw [Nat.sub_self] at hpl
      have : planM b share b.months.length a0 = out := by rw [← hpl]; exact List.append_nil out
      rw [this]
      exact ⟨Froz.tup (.cons (Froz.grow (i := 1) rfl (List.length_map _) (lowI _)) (.cons (Froz.low rfl) .nil))⟩
end GA
end

section
namespace GA
open Go Go.RowKit Go.Proofs
set_option pp.deepTerms true
set_option maxRecDepth 8000
set_option linter.unusedVariables false
set_option linter.unusedSimpArgs false

theorem XIx.lss {l : List (List Int)} {n : Int} {k : AV → Prop} (i : Nat) (hn : n = i) (h2 : i < l.length) (h : k (.pim [lsA (l.getD i default)])) : XIx (l.map lsA) n 1 k := by
  subst hn
  exact XIx.nat (f := lsA) h2 (fun _ => rfl) h
theorem refEven_c (b : Bd) (ok : BedOk b) (share : Int) (hsh : 0 ≤ share ∧ share ≤ b.room) : Comp Try.prog 49 [bedA b, .int .i64 share] (.int .i64 (evenF b share (b.room.toNat + 1))) := by
  have m1 := ok.m1
  have m2 := ok.m2
  have r1 := ok.r1
  have r2 := ok.r2
  have e1 : ((b.months.map moA).length : Int) = b.months.length := by rw [List.length_map]
  refine Comp.body (T := tab) (res := [.tmp 4]) tab_ok [] Try.func49 rfl (by kernel_rfl) Try.ntmps49 rfl (by simp only [List.length_cons, List.length_nil]; decide) (by simp only [lowL, bedL, AV.low]; rfl) ?_; conv => whnf
  skip
  refine Walk.loopGK tab_ok [] [(1, _), (2, _)] ⟨rfl, rfl, trivial⟩ (fun n : Nat => (n : Int) ≤ b.room + 1) (fun n => [(5, .int .i64 (evenF b share n)), (6, natA n)]) (fun _ => []) (fun n => (b.room + 1).toNat - n) 0 (by omega) rfl ⟨rfl, rfl, trivial⟩ ?_ (fun _ _ => Nat.le_refl _) ?_
  · intro k _
    refine ⟨by simp, fun z hz => ?_⟩
    simp only [List.cons_append, List.nil_append, List.mem_cons, List.not_mem_nil, or_false] at hz
    rcases hz with rfl | rfl | rfl | rfl <;> first | rfl | exact lowBd b
  intro n hn
  conv => whnf
  by_cases hlt : (n : Int) ≤ b.room
  · have hen := ends_c b ok false (List.replicate b.months.length (n : Int)) List.length_replicate (fun x hx => by rw [List.eq_of_mem_replicate hx]; omega)
    have hev : evenF b share (n + 1) = if decide (share ≤ endP b (List.replicate b.months.length (n : Int)) b.months.length (leastR b).toNat) = true then (n : Int) else evenF b share n := by rw [← keepB_eq]; rfl
    generalize endP b (List.replicate b.months.length (n : Int)) b.months.length (leastR b).toNat = e at hen hev
    have hng := negR_ge (e := e) hsh.1
    repeat' first | ((with_reducible apply XBr.dec) <;> (intro h; first | (exfalso; omega) | ((try simp only [List.length_map] at h); first | (exfalso; omega) | (conv => whnf)))) | fail
    refine Walk.nilgr 7 3 rfl ?_
    refine Walk.loopK tab_ok [] [(1, _), (2, _), (5, _), (6, _)] ⟨rfl, rfl, rfl, rfl, trivial⟩ (fun j : Nat => j ≤ b.months.length) (fun j => [(7, .gr 0 j), (8, natA j)]) (fun j => [.grow 3 (decide (j = 0)) (ints (List.replicate j (n : Int)))]) (fun j => b.months.length - j) 0 (Nat.zero_le _) rfl ⟨rfl, rfl, trivial⟩ ?_
    intro j hj
    have hjl : (ints (List.replicate j (n : Int))).length = j := by rw [ints_len, List.length_replicate]
    conv => whnf
    by_cases hltj : j < b.months.length
    · skip
      repeat' first | ((with_reducible apply XBr.dec) <;> (intro h; first | (exfalso; omega) | ((try simp only [List.length_map] at h); first | (exfalso; omega) | (conv => whnf)))) | ((with_reducible refine XInt.i64 (by omega) (by omega) ?_); conv => whnf) | ((with_reducible refine XHold.mk ?_ ?_); (first | omega | rfl | decide | exact ⟨rfl, by decide, rfl⟩ | exact wideI _ | exact widePr _ | exact wideSk _ | (unfold Room; constructor <;> ((try simp) <;> omega)) | exact ⟨rfl, by simp only [List.length_map], by unfold Room; constructor <;> ((try simp) <;> omega)⟩ | exact ⟨by omega, by omega, by unfold Room; constructor <;> ((try simp) <;> omega)⟩); conv => whnf) | fail
      refine XAgain.go (j + 1) (by omega) (by omega) ?_ ⟨rfl, rfl, rfl, rfl, rfl, rfl, trivial⟩
      rw [List.replicate_succ', show decide (j + 1 = 0) = (decide (j = 0) && false) by simp]
      show [Blk.grow _ _ (List.map (AV.int .i64) (_ ++ _))] = _
      rw [List.map_append]; rfl
    · obtain rfl : j = b.months.length := by omega
      have hz : decide (b.months.length = 0) = false := decide_eq_false (by omega)
      rw [hz]
      repeat' first | ((with_reducible apply XBr.dec) <;> (intro h; first | (exfalso; omega) | ((try simp only [List.length_map] at h); first | (exfalso; omega) | (conv => whnf)))) | ((first | (with_reducible refine XInt.i64 (by omega) (by omega) ?_) | (refine XCall.lend hen (.cons (.low (lowBd b)) (.cons (Froz.grow rfl hjl (lowI _)) .nil)) rfl ?_)); conv => whnf) | fail
      · rw [if_pos (decide_eq_true (by omega))] at hev
        exact XAgainG.go (n + 1) [_] (by omega) (by omega) rfl ⟨rfl, rfl, congrArg (fun z => some (AV.int .i64 z)) hev.symm, rfl, trivial⟩
      · rw [if_neg (by rw [decide_eq_true_eq]; omega)] at hev
        exact XAgainG.go (n + 1) [_] (by omega) (by omega) rfl ⟨rfl, rfl, congrArg (fun z => some (AV.int .i64 z)) hev.symm, rfl, trivial⟩
  · obtain rfl : n = b.room.toNat + 1 := by omega
    repeat' first | ((with_reducible apply XBr.dec) <;> (intro h; first | (exfalso; omega) | ((try simp only [List.length_map] at h); first | (exfalso; omega) | (conv => whnf)))) | fail
    exact ⟨.low rfl⟩
theorem mem_getD {α : Type} {l : List α} {x d : α} (h : x ∈ l) : ∃ i, i < l.length ∧ l.getD i d = x := by
  obtain ⟨i, hi, rfl⟩ := List.mem_iff_getElem.1 h
  exact ⟨i, hi, by rw [List.getD_eq_getElem?_getD, List.getElem?_eq_getElem hi]; rfl⟩
theorem allL_lt {r k i j : Nat} {d : List Int} (hij : i < j) (hj : j < (allL r k).length) : cmpL ((allL r k).getD i d) ((allL r k).getD j d) < 0 := by
  have := List.pairwise_iff_getElem.1 (allL_sorted r k) i j (by omega) hj hij
  rwa [List.getD_eq_getElem?_getD, List.getD_eq_getElem?_getD, List.getElem?_eq_getElem (by omega), List.getElem?_eq_getElem hj]
def mostV (b : Bd) (share : Int) : AV := if valM b share b.months.length (leastR b).toNat = -1 then .sl true [] else .sl false (ints (planM b share b.months.length (leastR b).toNat))
set_option maxHeartbeats 1000000 in
theorem refMost_c (b : Bd) (ok : BedOk b) (share : Int) (hsh : 0 ≤ share ∧ share ≤ b.room) (hr : b.room ≤ 12) (hM : b.months.length ≤ 3) : Comp Try.prog 48 [bedA b, .int .i64 share] (mostV b share) := by
  have m1 := ok.m1
  have m2 := ok.m2
  have r1 := ok.r1
  have r2 := ok.r2
  have hpl := plans_c b r1 hr hM b.months.length true [] (by simp) (fun h => by omega)
  have hmap : ((allL b.room.toNat b.months.length).map fun xs => ([] : List Int) ++ xs) = allL b.room.toNat b.months.length := by
    have : (fun xs : List Int => ([] : List Int) ++ xs) = id := by funext xs; rfl
    rw [this, List.map_id]
  rw [hmap] at hpl
  have hal := allL_len b.room.toNat b.months.length
  have hpw := pow_b (r := b.room.toNat) (k := b.months.length) (by omega) hM
  rw [← hal] at hpw
  have hlm : ∀ i, i < (allL b.room.toNat b.months.length).length → ((allL b.room.toNat b.months.length).getD i default).length = b.months.length ∧ ∀ x ∈ (allL b.room.toNat b.months.length).getD i default, 0 ≤ x ∧ x ≤ b.room := fun i hi => by
    obtain ⟨h1, h2⟩ := allL_mem.1 (getD_mem (d := default) hi)
    exact ⟨h1, fun x hx => by have := h2 x hx; omega⟩
  have hmax := planM_max ok share b.months.length (Nat.le_refl _) (leastR b).toNat
  have hpb := planM_bd ok share b.months.length (Nat.le_refl _) (leastR b).toNat
  have hkp : ∀ xs : List Int, xs.length = b.months.length → (∀ x ∈ xs, 0 ≤ x ∧ x ≤ b.room) → (share ≤ endP b xs b.months.length (leastR b).toNat ↔ okP b share b.months.length (leastR b).toNat xs) := fun xs h1 h2 => by
    rw [← keepB_iff h1 (fun x hx => (h2 x hx).1) hsh.1, keepB_eq, decide_eq_true_eq]
  have hlt : ∀ i j, i < j → j < (allL b.room.toNat b.months.length).length → cmpL ((allL b.room.toNat b.months.length).getD i default) ((allL b.room.toNat b.months.length).getD j default) < 0 := fun i j h1 h2 => allL_lt h1 h2
  have hidx : valM b share b.months.length (leastR b).toNat ≠ -1 → ∃ j, j < (allL b.room.toNat b.months.length).length ∧ (allL b.room.toNat b.months.length).getD j default = planM b share b.months.length (leastR b).toNat := fun h => by
    refine mem_getD (allL_mem.2 ⟨okP_len (hmax.1 h).1, fun x hx => by have := hpb.1 x hx; omega⟩)
  unfold mostV
  generalize valM b share b.months.length (leastR b).toNat = V at hmax hidx
  generalize planM b share b.months.length (leastR b).toNat = pl at hmax hpb hidx
  generalize allL b.room.toNat b.months.length = A at hpl hal hpw hlm hlt hidx
  have hAl : ((A.map lsA).length : Int) = A.length := by rw [List.length_map]
  have hen := fun (xs : List Int) h1 h2 => ends_c b ok false xs h1 h2
  -- the law, without memory: what is kept so far
  obtain ⟨Inv, hI0, hIS, hIE⟩ : ∃ Inv : Nat → AV → Int → Prop, Inv 0 (.sl true []) (-1) ∧
      (∀ i v m, i < A.length → Inv i v m → -1 ≤ m ∧ v.low 0 = true ∧
        ((¬ (m < (A.getD i default).sum ∧ share ≤ endP b (A.getD i default) b.months.length (leastR b).toNat)) → Inv (i + 1) v m) ∧
        (m < (A.getD i default).sum → share ≤ endP b (A.getD i default) b.months.length (leastR b).toNat → Inv (i + 1) (lsA (A.getD i default)) (A.getD i default).sum)) ∧
      (∀ v m, Inv A.length v m → v = if V = -1 then .sl true [] else .sl false (ints pl)) := by
    by_cases hv : V = -1
    · refine ⟨fun i v m => v = .sl true [] ∧ m = -1, ⟨rfl, rfl⟩, fun i v m hi h => ?_, fun v m h => by rw [if_pos hv]; exact h.1⟩
      obtain ⟨rfl, rfl⟩ := h
      obtain ⟨h1, h2⟩ := hlm i hi
      refine ⟨Int.le_refl _, rfl, fun _ => ⟨rfl, rfl⟩, fun _ h3 => ?_⟩
      exact absurd hv (hmax.2 _ ((hkp _ h1 h2).1 h3)).1
    · obtain ⟨j, hj, hje⟩ := hidx hv
      obtain ⟨hk1, hk2⟩ := hmax.1 hv
      have hj2 := hlm j hj
      have hv0 : -1 < V := by
        rw [← hk2]
        have : ∀ xs : List Int, (∀ x ∈ xs, 0 ≤ x ∧ x ≤ b.room) → 0 ≤ xs.sum := fun xs h => by
          have := takeS_b h r2 xs.length (Nat.le_refl _)
          rw [List.take_length] at this; exact this.1
        have := this pl (fun x hx => hpb.1 x hx); omega
      refine ⟨fun i v m => -1 ≤ m ∧ v.low 0 = true ∧ (i ≤ j → m < V) ∧ (j < i → m = V ∧ v = .sl false (ints pl)), ⟨Int.le_refl _, rfl, fun _ => hv0, fun h => by omega⟩, fun i v m hi h => ?_, fun v m h => by rw [if_neg hv]; exact (h.2.2.2 hj).2⟩
      obtain ⟨q1, q2, q3, q4⟩ := h
      obtain ⟨h1, h2⟩ := hlm i hi
      have hs0 : 0 ≤ (A.getD i default).sum := by
        have := takeS_b h2 r2 (A.getD i default).length (Nat.le_refl _)
        rw [List.take_length] at this; exact this.1
      refine ⟨q1, q2, fun hno => ⟨q1, q2, fun hij => q3 (by omega), fun hij => ?_⟩, fun h3 h4 => ?_⟩
      · by_cases he : i = j
        · exfalso
          subst he
          rw [hje] at hno
          exact hno ⟨by rw [hk2]; exact q3 (Nat.le_refl _), (hkp pl (by rw [← hje]; exact hj2.1) (fun x hx => hpb.1 x hx)).2 hk1⟩
        · exact q4 (by omega)
      · obtain ⟨p1, p2, p3⟩ := hmax.2 _ ((hkp _ h1 h2).1 h4)
        refine ⟨by omega, lsA_low _, fun hij => ?_, fun hij => ?_⟩
        · rcases Int.lt_or_eq_of_le p2 with h | h
          · exact h
          · have := hlt i j (by omega) hj
            rw [hje] at this
            have := p3 h; omega
        · by_cases he : i = j
          · subst he; rw [hje]; exact ⟨hk2, rfl⟩
          · have := (q4 (by omega)).1; omega
  clear hmax hidx hlt
  refine Comp.body (T := tab) (res := [.tmp 4]) tab_ok [] Try.func48 rfl (by kernel_rfl) Try.ntmps48 rfl (by simp only [List.length_cons, List.length_nil]; decide) (by simp only [lowL, bedL, AV.low]; rfl) ?_; conv => whnf
  repeat' first | ((refine XCall.ret hpl ?_); conv => whnf) | fail
  refine Walk.loopK tab_ok [] [(1, _), (2, _), (5, _)] ⟨rfl, rfl, rfl, trivial⟩ (fun q : Nat × AV × Int => q.1 ≤ A.length ∧ Inv q.1 q.2.1 q.2.2) (fun q => [(6, q.2.1), (7, .int .i64 q.2.2), (8, natA q.1)]) (fun _ => []) (fun q => A.length - q.1) (0, .sl true [], -1) ⟨Nat.zero_le _, hI0⟩ rfl ⟨rfl, rfl, rfl, trivial⟩ ?_
  rintro ⟨i, v, m⟩ ⟨hi, hI⟩
  dsimp only at hi hI ⊢
  conv => whnf
  by_cases hlt : i < A.length
  · obtain ⟨s1, s2, s3, s4⟩ := hIS i v m hlt hI
    obtain ⟨h1, h2⟩ := hlm i hlt
    have hei := hen _ h1 h2
    have hil : ((ints (A.getD i default)).length : Int) = b.months.length := by rw [ints_len]; omega
    generalize hE : endP b (A.getD i default) b.months.length (leastR b).toNat = e at s3 s4 hei
    have hng := negR_ge (e := e) hsh.1
    repeat' first | ((with_reducible apply XBr.dec) <;> (intro h; first | (exfalso; omega) | ((try simp only [List.length_map] at h); first | (exfalso; omega) | (conv => whnf)))) | fail
    refine Walk.loopK tab_ok [] [(1, _), (2, _), (5, _), (6, _), (7, _), (8, _)] ⟨rfl, rfl, rfl, rfl, rfl, rfl, trivial⟩ (fun j : Nat => j ≤ b.months.length) (fun j => [(9, .int .i64 ((A.getD i default).take j).sum), (10, natA j)]) (fun _ => []) (fun j => b.months.length - j) 0 (Nat.zero_le _) rfl ⟨rfl, rfl, trivial⟩ ?_
    intro j hj
    have hsb := takeS_b h2 r2 j (by omega)
    conv => whnf
    by_cases hltj : j < b.months.length
    · have hts := takeS_sum (xs := A.getD i default) (m := j) (by omega)
      have hsb2 := takeS_b h2 r2 (j + 1) (by omega)
      have hgm := h2 _ (getD_mem (d := default) (show j < (A.getD i default).length by omega))
      generalize ((A.getD i default).take j).sum = sm at hsb hts
      repeat' first | ((with_reducible apply XBr.dec) <;> (intro h; first | (exfalso; omega) | ((try simp only [List.length_map] at h); first | (exfalso; omega) | (conv => whnf)))) | ((first | (with_reducible refine XInt.i64 (by omega) (by omega) ?_) | ((with_reducible refine XIx.nat ?_ ?_ ?_); omega; (intro _; rfl))); conv => whnf) | fail
      exact XAgain.go (j + 1) (by omega) (by omega) rfl ⟨rfl, rfl, rfl, rfl, rfl, rfl, congrArg (fun z => some (AV.int .i64 z)) hts.symm, rfl, trivial⟩
    · obtain rfl : j = b.months.length := by omega
      rw [List.take_of_length_le (by omega : (A.getD i default).length ≤ b.months.length)] at hsb ⊢
      by_cases hms : m < (A.getD i default).sum
      · have hbb : decide (m < (A.getD i default).sum) = true := decide_eq_true hms
        repeat' first | ((with_reducible apply XBr.dec) <;> (intro h; first | (exfalso; omega) | ((try simp only [List.length_map] at h); first | (exfalso; omega) | (conv => whnf)))) | (((with_reducible refine XIx.nat ?_ ?_ ?_); omega; (intro _; rfl)); conv => whnf) | fail
        apply Walk.drawX tab_ok mixed_ok [] [] (hsK _) [_, _, .bool true, .bool true, _, _, _, _, _, _, _, _, _] (by kernel_rfl) rfl
        · skip
          repeat' first | ((first | (with_reducible apply XBr.tt) | ((with_reducible refine XIx.nat ?_ ?_ ?_); omega; (intro _; rfl))); conv => whnf) | (with_reducible apply XAnd.mk) | ((first | (with_reducible apply Chk.go) | (with_reducible apply ChkA.go)); conv => whnf) | (exact XSame.mk rfl rfl) | (with_reducible exact trivial) | (exact XSame.mk (congrArg AV.bool hbb) rfl) | ((refine XCall.ret hei ?_); conv => whnf) | fail
        · skip
          repeat' first | (with_reducible apply XAnd.mk) | ((first | (with_reducible apply ChkF.go) | (with_reducible apply ChkB.go)); conv => whnf) | (with_reducible exact trivial) | fail
        conv => whnf
        repeat' first | ((with_reducible apply XBr.dec) <;> (intro h; first | (exfalso; omega) | ((try simp only [List.length_map] at h); first | (exfalso; omega) | (conv => whnf)))) | ((first | (with_reducible refine XInt.i64 (by omega) (by omega) ?_) | ((with_reducible refine XIx.nat ?_ ?_ ?_); omega; (intro _; rfl))); conv => whnf) | fail
        · exact XAgain.go (i + 1, lsA (A.getD i default), (A.getD i default).sum) ⟨by dsimp only; omega, s4 hms (by omega)⟩ (by dsimp only; omega) rfl ⟨rfl, rfl, rfl, rfl, rfl, rfl, trivial⟩
        · exact XAgain.go (i + 1, v, m) ⟨by dsimp only; omega, s3 (by omega)⟩ (by dsimp only; omega) rfl ⟨rfl, rfl, rfl, rfl, rfl, rfl, trivial⟩
      · have hbb : decide (m < (A.getD i default).sum) = false := decide_eq_false hms
        repeat' first | ((with_reducible apply XBr.dec) <;> (intro h; first | (exfalso; omega) | ((try simp only [List.length_map] at h); first | (exfalso; omega) | (conv => whnf)))) | (((with_reducible refine XIx.nat ?_ ?_ ?_); omega; (intro _; rfl)); conv => whnf) | fail
        apply Walk.drawX tab_ok mixed_ok [] [] (hsK _) [_, _, .bool false, .bool false, _, _, _, _, _, _, _, _, _] (by kernel_rfl) rfl
        · skip
          repeat' first | ((with_reducible apply XBr.ff); conv => whnf) | (with_reducible apply XAnd.mk) | ((first | (with_reducible apply Chk.go) | (with_reducible apply ChkA.go)); conv => whnf) | (exact XSame.mk rfl rfl) | (with_reducible exact trivial) | (exact XSame.mk (congrArg AV.bool hbb) rfl) | fail
        · skip
          repeat' first | (with_reducible apply XAnd.mk) | ((first | (with_reducible apply ChkF.go) | (with_reducible apply ChkB.go)); conv => whnf) | (with_reducible exact trivial) | fail
        conv => whnf
        repeat' first | ((first | (with_reducible apply XBr.ff) | (with_reducible refine XInt.i64 (by omega) (by omega) ?_)); conv => whnf) | fail
        exact XAgain.go (i + 1, v, m) ⟨by dsimp only; omega, s3 (by omega)⟩ (by dsimp only; omega) rfl ⟨rfl, rfl, rfl, rfl, rfl, rfl, trivial⟩
  · obtain rfl : i = A.length := by omega
    obtain rfl := hIE _ _ hI
    repeat' first | ((with_reducible apply XBr.dec) <;> (intro h; first | (exfalso; omega) | ((try simp only [List.length_map] at h); first | (exfalso; omega) | (conv => whnf)))) | fail
    refine ⟨.low ?_⟩
    show AV.low 0 (if V = -1 then _ else _) = true
    split
    · rfl
    · exact lowI _
end GA
end

section
namespace GA
open Go Go.RowKit
set_option linter.unusedVariables false
section
variable {P : Program} {N : Nat} {ρ : Option Nat} {H : List Blk} {σ : St} {D : List Nat}

theorem flat_one : ∀ {els : List AV}, (∀ x ∈ els, x.one = true) → flat els = els
  | [], _ => rfl
  | x :: l, h => by
    have h1 := h x List.mem_cons_self
    have h2 := flat_one (els := l) fun y hy => h y (List.mem_cons_of_mem _ hy)
    have h3 : x.cells = [x] := by cases x <;> first | rfl | cases h1
    show x.cells ++ flat l = _
    rw [h3, h2]; rfl
theorem cells_one {x : AV} (h : x.one = true) : x.cells = [x] := by cases x <;> first | rfl | cases h

theorem Walk.run {T : Tab} {c : Code} {Q : Post} (ok : TabOk P T) (own : List Nat) (x : XRun P T N ρ own c Q D σ H) : Walk P N ρ c Q D σ H := ⟨XRun.sound ok x⟩
theorem XGet.set {els : List AV} {n e m : Nat} {x : AV} {k : List AV → Prop} (he : e = m) (hm : m < els.length) (hn : n = els.length) (h : k x.cells) : XGet (els.set m x) n e k := by
  subst he
  refine ⟨by rw [List.length_set]; exact hn, by omega, ?_⟩
  have : (els.set e x).getD e default = x := by rw [List.getD_eq_getElem?_getD, List.getElem?_set_self hm]; rfl
  rw [this]; exact h
theorem XPut.set {els : List AV} {n e m : Nat} {x v : AV} {k : List AV → Prop} (he : e = m) (hm : m < els.length) (hn : n = els.length) (h : k (els.set m v)) : XPut (els.set m x) n e v k := by
  subst he
  exact ⟨by rw [List.length_set]; exact hn, by omega, by rw [List.set_set]; exact h⟩
theorem FrozN.sl {n : Nat} {nl : Bool} {els els' : List AV} (hone : ∀ x ∈ els, x.one = true) (hone' : ∀ x ∈ els', x.one = true) (hs : FrozNL P n H els els') : FrozN P n H (.sl nl els) (.sl nl els') := by
  intro E h β w s v hr H1
  cases hr with
  | slnil =>
    have : els' = [] := List.eq_nil_of_length_eq_zero hs.1
    subst this; exact .slnil
  | slemp =>
    have : els' = [] := List.eq_nil_of_length_eq_zero hs.1
    subst this; exact .slemp
  | sl us hn hne hb hw hw0 ho hcap hc h3 =>
    rw [flat_one hone] at hc h3
    obtain ⟨e0, he0⟩ := List.exists_mem_of_ne_nil _ hne
    have hw1 := hw e0 he0
    rw [cells_one (hone e0 he0)] at hw1
    refine .sl us (by rw [hn, hs.1]) (fun e => hne (List.eq_nil_of_length_eq_zero (by rw [← hs.1, e]; rfl))) (hallN_imm s hb) (fun e he => by rw [cells_one (hone' e he)]; exact hw1) hw0 (fun x hx => ?_) (by rw [hs.1]; exact hcap) (fun j x e => ?_) (fun j x e => ?_)
    · rw [flat_one hone'] at hx; exact hone' x hx
    · rw [flat_one hone'] at e
      obtain ⟨y, e1, _⟩ := hs.2 j x e; exact hc j y e1
    · rw [flat_one hone'] at e
      obtain ⟨y, e1, e2⟩ := hs.2 j x e; exact e2 E h β w s _ (h3 j y e1) H1
end
end GA
end

section
namespace GA
open Go Go.RowKit
set_option linter.unusedVariables false
section
variable {P : Program} {N : Nat} {ρ : Option Nat} {H : List Blk} {σ : St} {D : List Nat} {Q : Post}

structure XFrz (u i n : Nat) (σ : St) (H : List Blk) (k : St → List Blk → Prop) : Prop where
  o : ∃ t nl els, σ u = some (.gr i n) ∧ lget H i = some (.grow t nl els) ∧ els.length = n ∧ k (updX σ u (.sl nl els)) (H.set i .dead)
theorem XFrz.go {u i n : Nat} {k : St → List Blk → Prop} {t : TypeId} {nl : Bool} {els : List AV} (hu : σ u = some (.gr i n)) (hi : lget H i = some (.grow t nl els)) (hn : els.length = n) (x : k (updX σ u (.sl nl els)) (H.set i .dead)) : XFrz u i n σ H k := ⟨t, nl, els, hu, hi, hn, x⟩
end
end GA
end

section
namespace GA
open Go Go.RowKit Go.Proofs
set_option pp.deepTerms true
set_option maxRecDepth 8000
set_option linter.unusedVariables false
set_option linter.unusedSimpArgs false

structure NI (b : Bd) (m n : Nat) (G : Nat → Bool) (D : Int → Int → Prop) : Prop where
  o : ∀ k : Nat, G k = true ↔ ∃ sp st, InC b m sp st ∧ D sp st ∧ grC b m n sp st - (moB b m).r = k
theorem NI.to {b : Bd} {m n : Nat} {G : Nat → Bool} {D D' : Int → Int → Prop} (h : NI b m n G D) (hd : ∀ x y, InC b m x y → (D' x y ↔ D x y)) : NI b m n G D' :=
  ⟨fun k => (h.o k).trans ⟨fun ⟨x, y, h1, h2, h3⟩ => ⟨x, y, h1, (hd x y h1).2 h2, h3⟩, fun ⟨x, y, h1, h2, h3⟩ => ⟨x, y, h1, (hd x y h1).1 h2, h3⟩⟩⟩
theorem NI.skip {b : Bd} {m n : Nat} {G : Nat → Bool} {D D' : Int → Int → Prop} {sp st : Int} (h : NI b m n G D) (hd : ∀ x y, InC b m x y → (D' x y ↔ D x y ∨ (x = sp ∧ y = st))) (hv : grC b m n sp st - (moB b m).r < 0) : NI b m n G D' := by
  refine ⟨fun k => (h.o k).trans ⟨fun ⟨x, y, h1, h2, h3⟩ => ⟨x, y, h1, (hd x y h1).2 (.inl h2), h3⟩, fun ⟨x, y, h1, h2, h3⟩ => ⟨x, y, h1, ?_, h3⟩⟩⟩
  rcases (hd x y h1).1 h2 with h4 | ⟨rfl, rfl⟩
  · exact h4
  · omega
theorem NI.put {b : Bd} {m n : Nat} {G : Nat → Bool} {D D' : Int → Int → Prop} {sp st : Int} (h : NI b m n G D) (hin : InC b m sp st) (hd : ∀ x y, InC b m x y → (D' x y ↔ D x y ∨ (x = sp ∧ y = st))) (hv : 0 ≤ grC b m n sp st - (moB b m).r) : NI b m n (updV G (grC b m n sp st - (moB b m).r).toNat true) D' := by
  refine ⟨fun k => ?_⟩
  unfold updV
  by_cases e : k = (grC b m n sp st - (moB b m).r).toNat
  · rw [if_pos e]
    exact ⟨fun _ => ⟨sp, st, hin, (hd sp st hin).2 (.inr ⟨rfl, rfl⟩), by omega⟩, fun _ => rfl⟩
  · rw [if_neg e]
    refine (h.o k).trans ⟨fun ⟨x, y, h1, h2, h3⟩ => ⟨x, y, h1, (hd x y h1).2 (.inl h2), h3⟩, fun ⟨x, y, h1, h2, h3⟩ => ⟨x, y, h1, ?_, h3⟩⟩
    rcases (hd x y h1).1 h2 with h4 | ⟨rfl, rfl⟩
    · exact h4
    · omega
def nxF (b : Bd) (m n k : Nat) : Bool := befF b m k n
theorem NI.all {b : Bd} (ok : BedOk b) {m n : Nat} (hm : m < b.months.length) {G : Nat → Bool} {D : Int → Int → Prop} (h : NI b m n G D) (hd : ∀ x y, InC b m x y → D x y) (k : Nat) : G k = nxF b m n k := by
  unfold nxF befF
  rw [Bool.eq_iff_iff, decide_eq_true_iff, h.o k, mem_lv ok hm]
  exact ⟨fun ⟨x, y, h1, h2, h3⟩ => ⟨x, y, h1, h3⟩, fun ⟨x, y, h1, h3⟩ => ⟨x, y, h1, hd x y h1, h3⟩⟩
end GA
end

section
namespace GA
open Go Go.RowKit Go.Proofs
set_option pp.deepTerms true
set_option maxRecDepth 8000
set_option linter.unusedVariables false
set_option linter.unusedSimpArgs false

theorem lieR_congr {b c : Bd} (hr : b.room = c.room) (hm : b.months = c.months) (m n : Nat) : lieR b m n = lieR c m n := by unfold lieR; rw [hr, hm]
theorem valM_congr {b c : Bd} (hr : b.room = c.room) (hm : b.months = c.months) (share : Int) : ∀ k, valM b share k = valM c share k
  | 0 => rfl
  | k + 1 => by
    funext a
    unfold valM
    rw [hm, lieR_congr hr hm, valM_congr hr hm share k]
theorem planM_congr {b c : Bd} (hr : b.room = c.room) (hm : b.months = c.months) (share : Int) : ∀ k a, planM b share k a = planM c share k a
  | 0, _ => rfl
  | k + 1, a => by
    unfold planM
    rw [hm, lieR_congr hr hm, valM_congr hr hm share k, valM_congr hr hm share (k + 1)]
    simp only [planM_congr hr hm share k]
theorem evenF_congr {b c : Bd} (hr : b.room = c.room) (hm : b.months = c.months) (hl : leastR b = leastR c) (share : Int) : ∀ n, evenF b share n = evenF c share n
  | 0 => rfl
  | n + 1 => by
    have h1 : keepB b (List.replicate b.months.length (n : Int)) share = keepB c (List.replicate c.months.length (n : Int)) share := by
      rw [keepB_eq, keepB_eq, endP_congr hr hm, hm, hl]
    rw [evenF_succ, evenF_succ]
    unfold kpB
    rw [h1, evenF_congr hr hm hl share n]
theorem nodesk_low (b : Bd) (share : Int) : ∃ d, bSharedA b share = .tup [d, .int .i64 (bShareE b share)] ∧ d.low 0 = true := by
  unfold bSharedA
  refine ⟨_, rfl, ?_⟩
  split
  · exact dskL b
  · rfl
theorem mostE_c (b : Bd) (share : Int) (hm : b.months.length ≤ 100000) (hs : b.surveys.length ≤ 100000) (hE : bShareE b share ≠ 0) : Comp Try.prog 50 [bedA b, .int .i64 share] (.tup [.sl true [], .int .i64 (bShareE b share)]) := by
  have hsh := bShared_c b share hm hs
  obtain ⟨d, hd, hd2⟩ := nodesk_low b share
  rw [hd] at hsh
  generalize bShareE b share = e at hsh hE
  refine Comp.body (T := tab) (res := [.tmp 4, .tmp 5]) tab_ok [] Try.func50 rfl (by kernel_rfl) Try.ntmps50 rfl (by simp only [List.length_cons, List.length_nil]; decide) (by simp only [lowL, bedL, AV.low]; rfl) ?_; conv => whnf
  repeat' first | ((with_reducible apply XBr.bne) <;> (intro h; first | (exfalso; omega) | (conv => whnf))) | ((refine XCall.ret hsh ?_); conv => whnf) | fail
  exact ⟨.low rfl⟩
set_option maxHeartbeats 2000000 in
theorem bedMost_c (b : Bd) (share : Int) : Comp Try.prog 7 [bedA b, .int .i64 share] (.bool true) := by
  have hgr := great04_c b
  have hwi := wide04_c b 12 3 8
  cases hg : great04 b
  case true =>
    refine Comp.body (T := tab) (res := [.tmp 4]) tab_ok [] Try.func7 rfl (by kernel_rfl) Try.ntmps7 rfl (by simp only [List.length_cons, List.length_nil]; decide) (by simp only [lowL, bedL, AV.low]; rfl) ?_; conv => whnf
    repeat' first | ((first | (with_reducible apply XBr.tt) | ((refine XCall.ret hgr ?_); rw [hg]) | (refine XCall.ret awake04_c ?_)); conv => whnf) | fail
    exact ⟨.low rfl⟩
  by_cases hw : 12 < b.room ∧ b.room ≤ 120 ∨ (3 : Int) < b.months.length ∧ (b.months.length : Int) ≤ 10 ∨ (8 : Int) < b.surveys.length ∧ (b.surveys.length : Int) ≤ 8
  · rw [decide_eq_true hw] at hwi
    refine Comp.body (T := tab) (res := [.tmp 4]) tab_ok [] Try.func7 rfl (by kernel_rfl) Try.ntmps7 rfl (by simp only [List.length_cons, List.length_nil]; decide) (by simp only [lowL, bedL, AV.low]; rfl) ?_; conv => whnf
    repeat' first | ((first | (with_reducible apply XBr.tt) | (with_reducible apply XBr.ff) | ((refine XCall.ret hgr ?_); rw [hg]) | (refine XCall.ret hwi ?_) | (refine XCall.ret awake04_c ?_)); conv => whnf) | fail
    exact ⟨.low rfl⟩
  rw [decide_eq_false hw] at hwi
  obtain ⟨g1, g2⟩ := great_iff.1 hg
  have hs1 : (ownB b).months.length ≤ 100000 := show b.months.length ≤ 100000 by omega
  have hs2 : (ownB b).surveys.length ≤ 100000 := show b.surveys.length ≤ 100000 by omega
  have how := own04_c b (by omega) (by omega)
  have hth := theirs04_c b (by omega) (by omega)
  have hck := refCheck04_c (thB b) hs1 hs2
  change Comp Try.prog _ _ (.int .i64 (bedE b)) at hck
  have hsa := same04_c b (by omega) (by omega)
  have hev := even_c (ownB b) share hs1 hs2
  have hEv : evenA (ownB b) share = evenA b share := by
    unfold evenA
    rw [evenF_congr (b := ownB b) (c := b) rfl rfl rfl]; rfl
  rw [hEv] at hev
  unfold evenA at hev
  by_cases hE : bShareE b share = 0
  · obtain ⟨ok, hsh⟩ := bShareE_iff.1 hE
    have hb : bedE b = 0 := (bedE_iff b).2 ok
    have r2 := ok.r2
    have m2 := ok.m2
    rw [hb] at hck
    rw [if_neg (fun h => h hE)] at hev
    have tok : BedOk (thB b) := ⟨ok.r1, ok.r2, ok.m1, ok.m2, ok.f1, ok.f2, ok.u1, ok.u2, ok.mo⟩
    have hrm := refMost_c (thB b) tok share hsh (show b.room ≤ 12 by omega) (show b.months.length ≤ 3 by omega)
    have hre := refEven_c (thB b) tok share hsh
    rw [evenF_congr (b := thB b) (c := b) rfl rfl rfl] at hre
    change Comp Try.prog _ _ (.int .i64 (evenF b share (b.room.toNat + 1))) at hre
    have hmo := mostS_c (ownB b) share hb hsh
    have hM1 : mostA (ownB b) share = mostA b share := by unfold mostA; rw [valM_congr (b := ownB b) (c := b) rfl rfl, planM_congr (b := ownB b) (c := b) rfl rfl]; rfl
    have hM2 : mostV (thB b) share = mostV b share := by unfold mostV; rw [valM_congr (b := thB b) (c := b) rfl rfl, planM_congr (b := thB b) (c := b) rfl rfl]; rfl
    rw [hM1] at hmo
    rw [hM2] at hrm
    unfold mostA at hmo
    unfold mostV at hrm
    have hpl := planM_bd ok.toBedOk share b.months.length (Nat.le_refl _) (leastR b).toNat
    generalize evenF b share (b.room.toNat + 1) = ev at hev hre
    by_cases hv : valM b share b.months.length (leastR b).toNat = -1
    · rw [if_pos hv] at hmo hrm
      have heq : Comp Try.prog 33 [.sl true (ints []), .sl true (ints [])] (.bool true) := eq_int true true [] [] (by simp)
      by_cases he : ev < 0
      · rw [if_pos he] at hev
        refine Comp.body (T := tab) (res := [.tmp 4]) tab_ok [] Try.func7 rfl (by kernel_rfl) Try.ntmps7 rfl (by simp only [List.length_cons, List.length_nil]; decide) (by simp only [lowL, bedL, AV.low]; rfl) ?_; conv => whnf
        repeat' first | ((first | (with_reducible apply XBr.ff) | ((refine XCall.ret hgr ?_); rw [hg]) | (refine XCall.ret hwi ?_)); conv => whnf) | fail
        refine Walk.place (Walk.place ?_)
        apply Walk.drawX tab_ok mixed_ok [] [4, 5, 6, 7] (fun fl => match fl with
          | [a, b', x, y] => [(bif a then .cells (bif x then bedC (ownB b) else bzero) else .free), (bif b' then .cells (bif y then bedC (thB b) else bzero) else .free)]
          | _ => []) [_, _, _, _, .ptr 0 0, .ptr 1 0, _, _] (by kernel_rfl) rfl
        · skip
          repeat' first | (with_reducible apply XAnd.mk) | ((first | (with_reducible apply Chk.go) | (with_reducible apply ChkA.go)); conv => whnf) | (exact XSame.mk rfl rfl) | (with_reducible exact trivial) | ((first | (refine XCall.ret how ?_) | (refine XCall.ret hth ?_)); conv => whnf) | (first | ((refine XFree.at 0 rfl ?_); (conv => whnf); exact XSame.mk rfl rfl) | ((refine XFree.at 1 rfl ?_); (conv => whnf); exact XSame.mk rfl rfl)) | fail
        · skip
          repeat' first | (with_reducible apply XAnd.mk) | ((first | (with_reducible apply Chk.go) | (with_reducible apply ChkF.go) | (with_reducible apply ChkB.go)); conv => whnf) | (exact XSame.mk rfl rfl) | (with_reducible exact trivial) | ((first | (refine XCall.ret how ?_) | (refine XCall.ret hth ?_)); conv => whnf) | (first | ((refine XFree.at 0 rfl ?_); (conv => whnf); exact XSame.mk rfl rfl) | ((refine XFree.at 1 rfl ?_); (conv => whnf); exact XSame.mk rfl rfl)) | fail
        conv => whnf
        repeat' first | ((first | (with_reducible apply XBr.tt) | (with_reducible apply XBr.ff)); conv => whnf) | ((with_reducible apply XBr.dec) <;> (intro h; first | (exfalso; omega) | ((try simp only [List.length_map] at h); first | (exfalso; omega) | (conv => whnf)))) | ((with_reducible apply XBr.beq) <;> (intro h; first | (exfalso; omega) | (conv => whnf))) | ((first | (refine XCall.ret hck ?_) | (refine XCall.ret hrm ?_) | (refine XCall.ret hre ?_) | (refine XCall.ret hmo ?_) | (refine XCall.ret hev ?_)); conv => whnf) | fail
        all_goals
          refine Walk.norm tab_ok [] [(2, _), (4, _), (5, _), (6, _), (7, _), (8, _), (9, _), (10, _), (11, _), (12, _), (13, _), (14, _)] ⟨rfl, rfl, rfl, rfl, rfl, rfl, rfl, rfl, rfl, rfl, rfl, rfl, trivial⟩ ?_
          conv => whnf
          repeat' first | ((with_reducible apply XBr.tt); conv => whnf) | ((with_reducible apply XBr.beq) <;> (intro h; first | (exfalso; omega) | (conv => whnf))) | ((first | (refine XCall.ret heq ?_) | (refine XCall.ret hsa ?_) | (refine XCall.ret awake04_c ?_)); conv => whnf) | fail
        all_goals first | exact ⟨.low rfl⟩ | (exfalso; omega) | (exfalso; simp at h; done)
      · rw [if_neg he] at hev
        refine Comp.body (T := tab) (res := [.tmp 4]) tab_ok [] Try.func7 rfl (by kernel_rfl) Try.ntmps7 rfl (by simp only [List.length_cons, List.length_nil]; decide) (by simp only [lowL, bedL, AV.low]; rfl) ?_; conv => whnf
        repeat' first | ((first | (with_reducible apply XBr.ff) | ((refine XCall.ret hgr ?_); rw [hg]) | (refine XCall.ret hwi ?_)); conv => whnf) | fail
        refine Walk.place (Walk.place ?_)
        apply Walk.drawX tab_ok mixed_ok [] [4, 5, 6, 7] (fun fl => match fl with
          | [a, b', x, y] => [(bif a then .cells (bif x then bedC (ownB b) else bzero) else .free), (bif b' then .cells (bif y then bedC (thB b) else bzero) else .free)]
          | _ => []) [_, _, _, _, .ptr 0 0, .ptr 1 0, _, _] (by kernel_rfl) rfl
        · skip
          repeat' first | (with_reducible apply XAnd.mk) | ((first | (with_reducible apply Chk.go) | (with_reducible apply ChkA.go)); conv => whnf) | (exact XSame.mk rfl rfl) | (with_reducible exact trivial) | ((first | (refine XCall.ret how ?_) | (refine XCall.ret hth ?_)); conv => whnf) | (first | ((refine XFree.at 0 rfl ?_); (conv => whnf); exact XSame.mk rfl rfl) | ((refine XFree.at 1 rfl ?_); (conv => whnf); exact XSame.mk rfl rfl)) | fail
        · skip
          repeat' first | (with_reducible apply XAnd.mk) | ((first | (with_reducible apply Chk.go) | (with_reducible apply ChkF.go) | (with_reducible apply ChkB.go)); conv => whnf) | (exact XSame.mk rfl rfl) | (with_reducible exact trivial) | ((first | (refine XCall.ret how ?_) | (refine XCall.ret hth ?_)); conv => whnf) | (first | ((refine XFree.at 0 rfl ?_); (conv => whnf); exact XSame.mk rfl rfl) | ((refine XFree.at 1 rfl ?_); (conv => whnf); exact XSame.mk rfl rfl)) | fail
        conv => whnf
        repeat' first | ((first | (with_reducible apply XBr.tt) | (with_reducible apply XBr.ff)); conv => whnf) | ((with_reducible apply XBr.dec) <;> (intro h; first | (exfalso; omega) | ((try simp only [List.length_map] at h); first | (exfalso; omega) | (conv => whnf)))) | ((with_reducible apply XBr.beq) <;> (intro h; first | (exfalso; omega) | (conv => whnf))) | ((first | (refine XCall.ret hck ?_) | (refine XCall.ret hrm ?_) | (refine XCall.ret hre ?_) | (refine XCall.ret hmo ?_) | (refine XCall.ret hev ?_)); conv => whnf) | fail
        all_goals
          refine Walk.norm tab_ok [] [(2, _), (4, _), (5, _), (6, _), (7, _), (8, _), (9, _), (10, _), (11, _), (12, _), (13, _), (14, _)] ⟨rfl, rfl, rfl, rfl, rfl, rfl, rfl, rfl, rfl, rfl, rfl, rfl, trivial⟩ ?_
          conv => whnf
          repeat' first | ((with_reducible apply XBr.tt); conv => whnf) | ((with_reducible apply XBr.beq) <;> (intro h; first | (exfalso; omega) | (conv => whnf))) | ((first | (refine XCall.ret heq ?_) | (refine XCall.ret hsa ?_) | (refine XCall.ret awake04_c ?_)); conv => whnf) | fail
        all_goals first | exact ⟨.low rfl⟩ | (exfalso; omega) | (exfalso; simp at h; done)
    · rw [if_neg hv] at hmo hrm
      generalize planM b share b.months.length (leastR b).toNat = pl at hmo hrm hpl
      have heq := eq_int pl.isEmpty false pl pl (by omega)
      rw [beq_self_eq_true] at heq
      by_cases he : ev < 0
      · rw [if_pos he] at hev
        refine Comp.body (T := tab) (res := [.tmp 4]) tab_ok [] Try.func7 rfl (by kernel_rfl) Try.ntmps7 rfl (by simp only [List.length_cons, List.length_nil]; decide) (by simp only [lowL, bedL, AV.low]; rfl) ?_; conv => whnf
        repeat' first | ((first | (with_reducible apply XBr.ff) | ((refine XCall.ret hgr ?_); rw [hg]) | (refine XCall.ret hwi ?_)); conv => whnf) | fail
        refine Walk.place (Walk.place ?_)
        apply Walk.drawX tab_ok mixed_ok [] [4, 5, 6, 7] (fun fl => match fl with
          | [a, b', x, y] => [(bif a then .cells (bif x then bedC (ownB b) else bzero) else .free), (bif b' then .cells (bif y then bedC (thB b) else bzero) else .free)]
          | _ => []) [_, _, _, _, .ptr 0 0, .ptr 1 0, _, _] (by kernel_rfl) rfl
        · skip
          repeat' first | (with_reducible apply XAnd.mk) | ((first | (with_reducible apply Chk.go) | (with_reducible apply ChkA.go)); conv => whnf) | (exact XSame.mk rfl rfl) | (with_reducible exact trivial) | ((first | (refine XCall.ret how ?_) | (refine XCall.ret hth ?_)); conv => whnf) | (first | ((refine XFree.at 0 rfl ?_); (conv => whnf); exact XSame.mk rfl rfl) | ((refine XFree.at 1 rfl ?_); (conv => whnf); exact XSame.mk rfl rfl)) | fail
        · skip
          repeat' first | (with_reducible apply XAnd.mk) | ((first | (with_reducible apply Chk.go) | (with_reducible apply ChkF.go) | (with_reducible apply ChkB.go)); conv => whnf) | (exact XSame.mk rfl rfl) | (with_reducible exact trivial) | ((first | (refine XCall.ret how ?_) | (refine XCall.ret hth ?_)); conv => whnf) | (first | ((refine XFree.at 0 rfl ?_); (conv => whnf); exact XSame.mk rfl rfl) | ((refine XFree.at 1 rfl ?_); (conv => whnf); exact XSame.mk rfl rfl)) | fail
        conv => whnf
        repeat' first | ((first | (with_reducible apply XBr.tt) | (with_reducible apply XBr.ff)); conv => whnf) | ((with_reducible apply XBr.dec) <;> (intro h; first | (exfalso; omega) | ((try simp only [List.length_map] at h); first | (exfalso; omega) | (conv => whnf)))) | ((with_reducible apply XBr.beq) <;> (intro h; first | (exfalso; omega) | (conv => whnf))) | ((first | (refine XCall.ret hck ?_) | (refine XCall.ret hrm ?_) | (refine XCall.ret hre ?_) | (refine XCall.ret hmo ?_) | (refine XCall.ret hev ?_)); conv => whnf) | fail
        all_goals
          refine Walk.norm tab_ok [] [(2, _), (4, _), (5, _), (6, _), (7, _), (8, _), (9, _), (10, _), (11, _), (12, _), (13, _), (14, _)] ⟨rfl, rfl, rfl, rfl, rfl, rfl, rfl, rfl, rfl, rfl, rfl, rfl, trivial⟩ ?_
          conv => whnf
          repeat' first | ((with_reducible apply XBr.tt); conv => whnf) | ((with_reducible apply XBr.beq) <;> (intro h; first | (exfalso; omega) | (conv => whnf))) | ((first | (refine XCall.ret heq ?_) | (refine XCall.ret hsa ?_) | (refine XCall.ret awake04_c ?_)); conv => whnf) | fail
        all_goals first | exact ⟨.low rfl⟩ | (exfalso; omega) | (exfalso; simp at h; done)
      · rw [if_neg he] at hev
        refine Comp.body (T := tab) (res := [.tmp 4]) tab_ok [] Try.func7 rfl (by kernel_rfl) Try.ntmps7 rfl (by simp only [List.length_cons, List.length_nil]; decide) (by simp only [lowL, bedL, AV.low]; rfl) ?_; conv => whnf
        repeat' first | ((first | (with_reducible apply XBr.ff) | ((refine XCall.ret hgr ?_); rw [hg]) | (refine XCall.ret hwi ?_)); conv => whnf) | fail
        refine Walk.place (Walk.place ?_)
        apply Walk.drawX tab_ok mixed_ok [] [4, 5, 6, 7] (fun fl => match fl with
          | [a, b', x, y] => [(bif a then .cells (bif x then bedC (ownB b) else bzero) else .free), (bif b' then .cells (bif y then bedC (thB b) else bzero) else .free)]
          | _ => []) [_, _, _, _, .ptr 0 0, .ptr 1 0, _, _] (by kernel_rfl) rfl
        · skip
          repeat' first | (with_reducible apply XAnd.mk) | ((first | (with_reducible apply Chk.go) | (with_reducible apply ChkA.go)); conv => whnf) | (exact XSame.mk rfl rfl) | (with_reducible exact trivial) | ((first | (refine XCall.ret how ?_) | (refine XCall.ret hth ?_)); conv => whnf) | (first | ((refine XFree.at 0 rfl ?_); (conv => whnf); exact XSame.mk rfl rfl) | ((refine XFree.at 1 rfl ?_); (conv => whnf); exact XSame.mk rfl rfl)) | fail
        · skip
          repeat' first | (with_reducible apply XAnd.mk) | ((first | (with_reducible apply Chk.go) | (with_reducible apply ChkF.go) | (with_reducible apply ChkB.go)); conv => whnf) | (exact XSame.mk rfl rfl) | (with_reducible exact trivial) | ((first | (refine XCall.ret how ?_) | (refine XCall.ret hth ?_)); conv => whnf) | (first | ((refine XFree.at 0 rfl ?_); (conv => whnf); exact XSame.mk rfl rfl) | ((refine XFree.at 1 rfl ?_); (conv => whnf); exact XSame.mk rfl rfl)) | fail
        conv => whnf
        repeat' first | ((first | (with_reducible apply XBr.tt) | (with_reducible apply XBr.ff)); conv => whnf) | ((with_reducible apply XBr.dec) <;> (intro h; first | (exfalso; omega) | ((try simp only [List.length_map] at h); first | (exfalso; omega) | (conv => whnf)))) | ((with_reducible apply XBr.beq) <;> (intro h; first | (exfalso; omega) | (conv => whnf))) | ((first | (refine XCall.ret hck ?_) | (refine XCall.ret hrm ?_) | (refine XCall.ret hre ?_) | (refine XCall.ret hmo ?_) | (refine XCall.ret hev ?_)); conv => whnf) | fail
        all_goals
          refine Walk.norm tab_ok [] [(2, _), (4, _), (5, _), (6, _), (7, _), (8, _), (9, _), (10, _), (11, _), (12, _), (13, _), (14, _)] ⟨rfl, rfl, rfl, rfl, rfl, rfl, rfl, rfl, rfl, rfl, rfl, rfl, trivial⟩ ?_
          conv => whnf
          repeat' first | ((with_reducible apply XBr.tt); conv => whnf) | ((with_reducible apply XBr.beq) <;> (intro h; first | (exfalso; omega) | (conv => whnf))) | ((first | (refine XCall.ret heq ?_) | (refine XCall.ret hsa ?_) | (refine XCall.ret awake04_c ?_)); conv => whnf) | fail
        all_goals first | exact ⟨.low rfl⟩ | (exfalso; omega) | (exfalso; simp at h; done)
  · rw [if_pos hE] at hev
    have hmo := mostE_c (ownB b) share hs1 hs2 hE
    change Comp Try.prog _ _ (.tup [.sl true [], .int .i64 (bShareE b share)]) at hmo
    have heq : Comp Try.prog 33 [.sl true (ints []), .sl true (ints [])] (.bool true) := eq_int true true [] [] (by simp)
    have hrm : True := trivial
    have hre : True := trivial
    by_cases hb : bedE b = 0
    · have hE3 : bShareE b share = 3 := by
        unfold bShareE at hE ⊢
        rw [if_neg (fun h => h hb)] at hE ⊢
        split
        · rfl
        · rename_i h; rw [if_neg h] at hE; exact absurd rfl hE
      have hns : ¬ (0 ≤ share ∧ share ≤ b.room) := fun h => hE (bShareE_iff.2 ⟨(bedE_iff b).1 hb, h⟩)
      rw [hE3] at hev hmo
      rw [hb] at hck
      refine Comp.body (T := tab) (res := [.tmp 4]) tab_ok [] Try.func7 rfl (by kernel_rfl) Try.ntmps7 rfl (by simp only [List.length_cons, List.length_nil]; decide) (by simp only [lowL, bedL, AV.low]; rfl) ?_; conv => whnf
      repeat' first | ((first | (with_reducible apply XBr.ff) | ((refine XCall.ret hgr ?_); rw [hg]) | (refine XCall.ret hwi ?_)); conv => whnf) | fail
      refine Walk.place (Walk.place ?_)
      apply Walk.drawX tab_ok mixed_ok [] [4, 5, 6, 7] (fun fl => match fl with
        | [a, b', x, y] => [(bif a then .cells (bif x then bedC (ownB b) else bzero) else .free), (bif b' then .cells (bif y then bedC (thB b) else bzero) else .free)]
        | _ => []) [_, _, _, _, .ptr 0 0, .ptr 1 0, _, _] (by kernel_rfl) rfl
      · skip
        repeat' first | (with_reducible apply XAnd.mk) | ((first | (with_reducible apply Chk.go) | (with_reducible apply ChkA.go)); conv => whnf) | (exact XSame.mk rfl rfl) | (with_reducible exact trivial) | ((first | (refine XCall.ret how ?_) | (refine XCall.ret hth ?_)); conv => whnf) | (first | ((refine XFree.at 0 rfl ?_); (conv => whnf); exact XSame.mk rfl rfl) | ((refine XFree.at 1 rfl ?_); (conv => whnf); exact XSame.mk rfl rfl)) | fail
      · skip
        repeat' first | (with_reducible apply XAnd.mk) | ((first | (with_reducible apply Chk.go) | (with_reducible apply ChkF.go) | (with_reducible apply ChkB.go)); conv => whnf) | (exact XSame.mk rfl rfl) | (with_reducible exact trivial) | ((first | (refine XCall.ret how ?_) | (refine XCall.ret hth ?_)); conv => whnf) | (first | ((refine XFree.at 0 rfl ?_); (conv => whnf); exact XSame.mk rfl rfl) | ((refine XFree.at 1 rfl ?_); (conv => whnf); exact XSame.mk rfl rfl)) | fail
      conv => whnf
      repeat' first | ((first | (with_reducible apply XBr.tt) | (with_reducible apply XBr.ff)); conv => whnf) | ((with_reducible apply XBr.dec) <;> (intro h; first | (exfalso; omega) | ((try simp only [List.length_map] at h); first | (exfalso; omega) | (conv => whnf)))) | ((with_reducible apply XBr.beq) <;> (intro h; first | (exfalso; omega) | (conv => whnf))) | ((first | (refine XCall.ret hck ?_) | (refine XCall.ret hmo ?_) | (refine XCall.ret hev ?_)); conv => whnf) | fail
      all_goals
        refine Walk.norm tab_ok [] [(2, _), (4, _), (5, _), (6, _), (7, _), (8, _), (9, _), (10, _), (11, _), (12, _), (13, _), (14, _)] ⟨rfl, rfl, rfl, rfl, rfl, rfl, rfl, rfl, rfl, rfl, rfl, rfl, trivial⟩ ?_
        conv => whnf
        repeat' first | ((with_reducible apply XBr.tt); conv => whnf) | ((with_reducible apply XBr.beq) <;> (intro h; first | (exfalso; omega) | (conv => whnf))) | ((first | (refine XCall.ret heq ?_) | (refine XCall.ret hsa ?_) | (refine XCall.ret awake04_c ?_)); conv => whnf) | fail
      all_goals first | exact ⟨.low rfl⟩ | (exfalso; omega) | (exfalso; simp at h; done)
    · have hE4 : bShareE b share = bedE b := by unfold bShareE; rw [if_pos hb]
      rw [hE4] at hev hmo
      generalize bedE b = E at hb hck hev hmo
      refine Comp.body (T := tab) (res := [.tmp 4]) tab_ok [] Try.func7 rfl (by kernel_rfl) Try.ntmps7 rfl (by simp only [List.length_cons, List.length_nil]; decide) (by simp only [lowL, bedL, AV.low]; rfl) ?_; conv => whnf
      repeat' first | ((first | (with_reducible apply XBr.ff) | ((refine XCall.ret hgr ?_); rw [hg]) | (refine XCall.ret hwi ?_)); conv => whnf) | fail
      refine Walk.place (Walk.place ?_)
      apply Walk.drawX tab_ok mixed_ok [] [4, 5, 6, 7] (fun fl => match fl with
        | [a, b', x, y] => [(bif a then .cells (bif x then bedC (ownB b) else bzero) else .free), (bif b' then .cells (bif y then bedC (thB b) else bzero) else .free)]
        | _ => []) [_, _, _, _, .ptr 0 0, .ptr 1 0, _, _] (by kernel_rfl) rfl
      · skip
        repeat' first | (with_reducible apply XAnd.mk) | ((first | (with_reducible apply Chk.go) | (with_reducible apply ChkA.go)); conv => whnf) | (exact XSame.mk rfl rfl) | (with_reducible exact trivial) | ((first | (refine XCall.ret how ?_) | (refine XCall.ret hth ?_)); conv => whnf) | (first | ((refine XFree.at 0 rfl ?_); (conv => whnf); exact XSame.mk rfl rfl) | ((refine XFree.at 1 rfl ?_); (conv => whnf); exact XSame.mk rfl rfl)) | fail
      · skip
        repeat' first | (with_reducible apply XAnd.mk) | ((first | (with_reducible apply Chk.go) | (with_reducible apply ChkF.go) | (with_reducible apply ChkB.go)); conv => whnf) | (exact XSame.mk rfl rfl) | (with_reducible exact trivial) | ((first | (refine XCall.ret how ?_) | (refine XCall.ret hth ?_)); conv => whnf) | (first | ((refine XFree.at 0 rfl ?_); (conv => whnf); exact XSame.mk rfl rfl) | ((refine XFree.at 1 rfl ?_); (conv => whnf); exact XSame.mk rfl rfl)) | fail
      conv => whnf
      repeat' first | ((with_reducible apply XBr.ff); conv => whnf) | ((with_reducible apply XBr.beq) <;> (intro h; first | (exfalso; omega) | (conv => whnf))) | ((first | (refine XCall.ret hck ?_) | (refine XCall.ret hmo ?_) | (refine XCall.ret hev ?_)); conv => whnf) | fail
      all_goals
        refine Walk.norm tab_ok [] [(2, _), (4, _), (5, _), (6, _), (7, _), (8, _), (9, _), (10, _), (11, _), (12, _), (13, _), (14, _)] ⟨rfl, rfl, rfl, rfl, rfl, rfl, rfl, rfl, rfl, rfl, rfl, rfl, trivial⟩ ?_
        conv => whnf
        repeat' first | ((with_reducible apply XBr.tt); conv => whnf) | ((with_reducible apply XBr.beq) <;> (intro h; first | (exfalso; omega) | (conv => whnf))) | ((first | (refine XCall.ret heq ?_) | (refine XCall.ret hsa ?_) | (refine XCall.ret awake04_c ?_)); conv => whnf) | fail
      all_goals first | exact ⟨.low rfl⟩ | (exfalso; omega) | (exfalso; simp at h; done)
end GA
end
