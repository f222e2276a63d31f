/- Part 8 of a proof: S48, S49, S50, S51, S52. -/
import Derived.Test.YtlbdomhfcghjdaaP7
section
namespace GA
open Go Go.RowKit Go.Proofs
set_option pp.deepTerms true
set_option maxRecDepth 8000
set_option linter.unusedVariables false
set_option linter.unusedSimpArgs false

def lsK (bs : List Bool) (k : Nat) : List Int := ((List.range k).filter fun j => bs.getD j false).map fun j : Nat => (j : Int)
theorem lsK_next (bs : List Bool) (k : Nat) : lsK bs (k + 1) = if bs.getD k false = true then lsK bs k ++ [(k : Int)] else lsK bs k := by
  unfold lsK
  rw [List.range_succ, List.filter_append]
  by_cases h : bs.getD k false = true
  · rw [if_pos h, List.filter_cons_of_pos (p := fun j => bs.getD j false) h, List.filter_nil, List.map_append]; rfl
  · rw [if_neg h, List.filter_cons_of_neg (p := fun j => bs.getD j false) h, List.filter_nil, List.append_nil]
theorem lsK_len (bs : List Bool) (k : Nat) : (lsK bs k).length ≤ k := by
  unfold lsK
  rw [List.length_map]
  have := List.length_filter_le (fun j => bs.getD j false) (List.range k)
  rwa [List.length_range] at this
def lsN (bs : List Bool) : List Int := lsK bs bs.length
theorem refList_c (nl : Bool) (bs : List Bool) (hb : bs.length ≤ 1000) : Comp Try.prog 50 [.sl nl (bools bs)] (slA (lsN bs)) := by
  refine Comp.body (T := tab) (res := [.tmp 2]) tab_ok [] Try.func50 rfl (by kernel_rfl) Try.ntmps50 rfl (by simp only [List.length_cons, List.length_nil]; decide) (by simp only [lowL, AV.low, lowBo]; rfl) ?_; conv => whnf
  repeat' first | ((with_reducible apply XBr.tt); conv => whnf) | ((with_reducible apply XBr.ff); conv => whnf) | (with_reducible apply XBr.not) | ((with_reducible apply XBr.dec) <;> (intro h; first | (exfalso; omega) | ((try simp only [List.length_map] at h); first | (exfalso; omega) | (conv => whnf)))) | ((with_reducible apply XBr.beq) <;> (intro h; first | (exfalso; omega) | (conv => whnf))) | ((with_reducible apply XBr.bne) <;> (intro h; first | (exfalso; omega) | (conv => whnf))) | ((with_reducible refine XInt.i64 (by omega) (by omega) ?_); conv => whnf) | ((with_reducible refine XHold.mk ?_ ?_); (first | omega | rfl | decide | exact ⟨rfl, by decide, rfl⟩ | exact wideI _ | exact widePr _ | exact wideSk _ | (unfold Room; constructor <;> ((try simp) <;> omega)) | exact ⟨rfl, by simp only [List.length_map], by unfold Room; constructor <;> ((try simp) <;> omega)⟩ | exact ⟨by omega, by omega, by unfold Room; constructor <;> ((try simp) <;> omega)⟩); conv => whnf) | ((with_reducible refine XIx.nat ?_ ?_ ?_); omega; (intro _; rfl); conv => whnf) | ((with_reducible refine XIx.map ?_ ?_ ?_ ?_); omega; omega; (intro _; rfl); conv => whnf) | (with_reducible apply XAnd.mk) | ((with_reducible apply Chk.go); conv => whnf) | ((with_reducible apply ChkA.go); conv => whnf) | ((with_reducible apply ChkF.go); conv => whnf) | ((with_reducible apply ChkB.go); conv => whnf) | (exact XSame.mk rfl rfl) | (exact XSame.mk (by first | rfl | (simp only [List.map_append, List.length_append, List.length_map]; done) | (simp only [List.map_append, List.length_append, List.length_map]; rfl)) (by first | rfl | (simp only [List.map_append]; done) | (simp only [List.map_append]; rfl))) | (with_reducible exact trivial) | ((with_reducible refine xdrop_app (by rw [List.length_map]; omega) ?_); conv => whnf) | ((with_reducible refine XDrop.desk (by assumption) ?_); conv => whnf) | ((with_reducible refine XArr.ints (by omega) (by omega) (by omega) ?_); conv => whnf) | ((with_reducible refine XArr.intsA (by omega) (by omega) (by omega) ?_); conv => whnf) | ((with_reducible refine XArr.nats ?_ ?_ ?_); omega; omega; conv => whnf) | ((with_reducible refine XArr.natsA ?_ ?_ ?_); omega; omega; conv => whnf) | ((with_reducible apply XArr.pim0); conv => whnf) | ((with_reducible apply XArr.pim1); conv => whnf) | ((with_reducible refine XArr.ptr ?_ ?_ ?_); omega; omega; conv => whnf) | ((with_reducible apply XBr.mk') <;> (intro h; conv => whnf))
  refine Walk.nilgr 3 3 rfl ?_
  refine Walk.loop tab_ok [] (fun k : Nat => k ≤ bs.length) (fun k => [(0, .sl nl (bools bs)), (2, .sl true []), (3, .gr 0 (lsK bs k).length), (4, natA k)]) (fun k => [.grow 3 (lsK bs k).isEmpty (ints (lsK bs k))]) (fun k => bs.length - k) 0 (Nat.zero_le _) rfl ⟨rfl, rfl, rfl, rfl, trivial⟩ ?_
  intro k hk
  have hl := lsK_len bs k
  have hnx := lsK_next bs k
  have hall : k = bs.length → lsK bs k = lsN bs := fun h => by rw [h]; rfl
  generalize lsK bs k = ls at hl hnx hall
  conv => whnf
  repeat' first | ((with_reducible apply XBr.tt); conv => whnf) | ((with_reducible apply XBr.ff); conv => whnf) | (with_reducible apply XBr.not) | ((with_reducible apply XBr.dec) <;> (intro h; first | (exfalso; omega) | ((try simp only [List.length_map] at h); first | (exfalso; omega) | (conv => whnf)))) | ((with_reducible apply XBr.beq) <;> (intro h; first | (exfalso; omega) | (conv => whnf))) | ((with_reducible apply XBr.bne) <;> (intro h; first | (exfalso; omega) | (conv => whnf))) | ((with_reducible refine XInt.i64 (by omega) (by omega) ?_); conv => whnf) | ((with_reducible refine XHold.mk ?_ ?_); (first | omega | rfl | decide | exact ⟨rfl, by decide, rfl⟩ | exact wideI _ | exact widePr _ | exact wideSk _ | (unfold Room; constructor <;> ((try simp) <;> omega)) | exact ⟨rfl, by simp only [List.length_map], by unfold Room; constructor <;> ((try simp) <;> omega)⟩ | exact ⟨by omega, by omega, by unfold Room; constructor <;> ((try simp) <;> omega)⟩); conv => whnf) | ((with_reducible refine XIx.nat ?_ ?_ ?_); omega; (intro _; rfl); conv => whnf) | ((with_reducible refine XIx.map ?_ ?_ ?_ ?_); omega; omega; (intro _; rfl); conv => whnf) | (with_reducible apply XAnd.mk) | ((with_reducible apply Chk.go); conv => whnf) | ((with_reducible apply ChkA.go); conv => whnf) | ((with_reducible apply ChkF.go); conv => whnf) | ((with_reducible apply ChkB.go); conv => whnf) | (exact XSame.mk rfl rfl) | (exact XSame.mk (by first | rfl | (simp only [List.map_append, List.length_append, List.length_map]; done) | (simp only [List.map_append, List.length_append, List.length_map]; rfl)) (by first | rfl | (simp only [List.map_append]; done) | (simp only [List.map_append]; rfl))) | (with_reducible exact trivial) | ((with_reducible refine xdrop_app (by rw [List.length_map]; omega) ?_); conv => whnf) | ((with_reducible refine XDrop.desk (by assumption) ?_); conv => whnf) | ((with_reducible refine XArr.ints (by omega) (by omega) (by omega) ?_); conv => whnf) | ((with_reducible refine XArr.intsA (by omega) (by omega) (by omega) ?_); conv => whnf) | ((with_reducible refine XArr.nats ?_ ?_ ?_); omega; omega; conv => whnf) | ((with_reducible refine XArr.natsA ?_ ?_ ?_); omega; omega; conv => whnf) | ((with_reducible apply XArr.pim0); conv => whnf) | ((with_reducible apply XArr.pim1); conv => whnf) | ((with_reducible refine XArr.ptr ?_ ?_ ?_); omega; omega; conv => whnf) | ((refine XHold.mk ⟨rfl, by rw [List.length_map], by unfold Room; constructor <;> ((try simp) <;> omega)⟩ ?_); conv => whnf) | ((with_reducible apply XBr.mk') <;> (intro h; conv => whnf))
  · refine XAgain.go (k + 1) (by omega) (by omega) ?_ ⟨rfl, rfl, ?_, rfl, trivial⟩
    · rw [hnx, if_pos (show bs.getD k false = true from h)]; simp only [List.map_append, isEmpty_app]; rfl
    · rw [hnx, if_pos (show bs.getD k false = true from h)]; simp only [List.length_append]; rfl
  · refine XAgain.go (k + 1) (by omega) (by omega) ?_ ⟨rfl, rfl, ?_, rfl, trivial⟩
    · rw [hnx, if_neg (by rw [show bs.getD k false = false from h]; simp)]
    · rw [hnx, if_neg (by rw [show bs.getD k false = false from h]; simp)]; rfl
  · rw [← hall (by omega)]
    exact ⟨by unfold slA; exact Froz.grow rfl (by rw [List.length_map]) (lowI _)⟩
theorem bitsF_ls : ∀ (f i s : Nat), s < 2 ^ f → bitsF f i s = ((List.range f).filter fun j => s.testBit j).map fun j => ((i + j : Nat) : Int)
  | 0, i, s, h => rfl
  | f + 1, i, s, h => by
    have ih := bitsF_ls f (i + 1) (s / 2) (by rw [Nat.pow_succ] at h; omega)
    have e : bitsF (f + 1) i s = if s = 0 then [] else if s % 2 = 1 then (i : Int) :: bitsF f (i + 1) (s / 2) else bitsF f (i + 1) (s / 2) := rfl
    have e2 : ((List.range (f + 1)).filter fun j => s.testBit j).map (fun j => ((i + j : Nat) : Int)) = (if s % 2 = 1 then [(i : Int)] else []) ++ ((List.range f).filter fun j => (s / 2).testBit j).map fun j => ((i + 1 + j : Nat) : Int) := by
      rw [List.range_succ_eq_map, List.filter_cons, List.filter_map]
      have h0 : s.testBit 0 = decide (s % 2 = 1) := Nat.testBit_zero s
      have hf : ((fun j => s.testBit j) ∘ Nat.succ) = fun j => (s / 2).testBit j := by funext j; exact Nat.testBit_succ ..
      rw [hf, h0]
      by_cases hs : s % 2 = 1
      · rw [if_pos hs, if_pos (by simp [hs]), List.map_cons, List.map_map]
        show _ :: _ = _ :: _
        congr 1
        apply List.map_congr_left; intro j _; show ((i + (j + 1) : Nat) : Int) = _; congr 1; omega
      · rw [if_neg hs, if_neg (by simp [hs]), List.map_map]
        show _ = _
        rw [List.nil_append]
        apply List.map_congr_left; intro j _; show ((i + (j + 1) : Nat) : Int) = _; congr 1; omega
    rw [e, e2]
    by_cases h0 : s = 0
    · subst h0
      rw [if_pos rfl]
      have : ((List.range f).filter fun j => (0 / 2).testBit j) = [] := by rw [List.filter_eq_nil_iff]; intro j _; simp
      rw [this]; rfl
    · rw [if_neg h0, ih]
      by_cases hs : s % 2 = 1
      · rw [if_pos hs, if_pos hs]; rfl
      · rw [if_neg hs, if_neg hs]; rfl
theorem bits_ls {n s : Nat} (hn : n ≤ 9) (h : s < 2 ^ n) : lsN (boolN n s) = bits s := by
  have hp := pow9 hn
  have e : bits s = ((List.range 62).filter fun j => s.testBit j).map fun j => ((0 + j : Nat) : Int) := bitsF_ls 62 0 s (by omega)
  rw [e]
  have hr : List.range 62 = List.range n ++ (List.range (62 - n)).map (n + ·) := by rw [← List.range_add]; congr 1; omega
  rw [hr, List.filter_append]
  have h2 : ((List.range (62 - n)).map (n + ·)).filter (fun j => s.testBit j) = [] := by
    rw [List.filter_eq_nil_iff]
    intro j hj
    obtain ⟨k, _, rfl⟩ := List.mem_map.1 hj
    rw [Nat.testBit_lt_two_pow (Nat.lt_of_lt_of_le h (Nat.pow_le_pow_right (by omega) (by omega)))]; simp
  rw [h2, List.append_nil]
  unfold lsN lsK
  rw [boolN_len]
  have h3 : ((List.range n).filter fun j => (boolN n s).getD j false) = (List.range n).filter fun j => s.testBit j := by
    apply List.filter_congr
    intro j hj
    exact boolN_get (List.mem_range.1 hj)
  rw [h3]
  apply List.map_congr_left; intro j _; congr 1; omega
theorem first_all : ∀ s : Fin 512, s.val ≠ 0 → (bits s.val).getD 0 0 = ((Nat.log2 (lowb s.val) : Nat) : Int) ∧ lowb s.val = 2 ^ Nat.log2 (lowb s.val) ∧ bits s.val ≠ [] := by decide +kernel
theorem first_iff {s i : Nat} (h0 : s ≠ 0) (h : s < 512) : (bits s).getD 0 0 = (i : Int) ↔ lowb s = 2 ^ i := by
  obtain ⟨h1, h2, _⟩ := first_all ⟨s, h⟩ h0
  dsimp only at h1 h2
  rw [h1]
  constructor
  · intro e; have : Nat.log2 (lowb s) = i := by omega
    rw [← this]; exact h2
  · intro e; rw [e, Nat.log2_two_pow]
end GA
end

section
namespace GA
open Go Go.RowKit Go.Proofs
set_option pp.deepTerms true
set_option maxRecDepth 8000
set_option linter.unusedVariables false
set_option linter.unusedSimpArgs false

theorem sumW_take : ∀ (ws : List Nat) (k s : Nat), k < ws.length → sumW (ws.take (k + 1)) s = sumW (ws.take k) s + if s.testBit k = true then ws.getD k 0 else 0
  | [], _, _, h => by simp at h
  | w :: ws, 0, s, h => by
    have e : sumW ((w :: ws).take 1) s = (if s % 2 = 1 then w else 0) + sumW [] (s / 2) := rfl
    have e2 : sumW ((w :: ws).take 0) s = 0 := rfl
    rw [e, e2, Nat.testBit_zero]
    show _ + 0 = 0 + _
    by_cases hs : s % 2 = 1
    · rw [if_pos hs, if_pos (by simp [hs])]; simp
    · rw [if_neg hs, if_neg (by simp [hs])]
  | w :: ws, k + 1, s, h => by
    have ih := sumW_take ws k (s / 2) (by simpa using h)
    have e : sumW ((w :: ws).take (k + 1 + 1)) s = (if s % 2 = 1 then w else 0) + sumW (ws.take (k + 1)) (s / 2) := rfl
    have e2 : sumW ((w :: ws).take (k + 1)) s = (if s % 2 = 1 then w else 0) + sumW (ws.take k) (s / 2) := rfl
    rw [e, e2, ih, Nat.testBit_succ, List.getD_cons_succ]; omega
theorem right_no {l : Ld} (o : LdOk l) {s : Nat} (h : s < 2 ^ l.sacks.length) (hn : ¬ RightP l s) : rightB (openD l) s = false := by
  cases e : rightB (openD l) s
  · rfl
  · exact absurd ((right_iff o h).1 e) hn
set_option maxHeartbeats 1000000 in
theorem refRight_c (l : Ld) (o : LdOk l) (nl : Bool) (bs : List Bool) (hb : bs.length = l.sacks.length) : Comp Try.prog 42 [ldA l, .sl nl (bools bs)] (.bool (rightB (openD l) (setN bs))) := by
  have hn := o.n
  have ha := o.na
  have e1 : ((bools bs).length : Int) = l.sacks.length := by rw [List.length_map, hb]
  have e2 : ((l.apart.map prA).length : Int) = l.apart.length := by rw [List.length_map]
  have hws := wts_le o
  have hwl : (wts l).length = l.sacks.length := List.length_map _
  have hbit := setN_bit bs
  have hSl : setN bs < 2 ^ l.sacks.length := by rw [← hb]; exact setN_lt bs
  generalize hS : setN bs = S at hbit hSl
  refine Comp.body (T := tab) (res := [.tmp 4]) tab_ok [] Try.func42 rfl (by kernel_rfl) Try.ntmps42 rfl (by simp only [List.length_cons, List.length_nil]; decide) (by simp only [lowL, AV.low, ldL, lowBo]; rfl) ?_; conv => whnf
  repeat' first | ((with_reducible apply XBr.tt); conv => whnf) | ((with_reducible apply XBr.ff); conv => whnf) | (with_reducible apply XBr.not) | ((with_reducible apply XBr.dec) <;> (intro h; first | (exfalso; omega) | ((try simp only [List.length_map] at h); first | (exfalso; omega) | (conv => whnf)))) | ((with_reducible apply XBr.beq) <;> (intro h; first | (exfalso; omega) | (conv => whnf))) | ((with_reducible apply XBr.bne) <;> (intro h; first | (exfalso; omega) | (conv => whnf))) | ((with_reducible refine XInt.i64 (by omega) (by omega) ?_); conv => whnf) | ((with_reducible refine XHold.mk ?_ ?_); (first | omega | rfl | decide | exact ⟨rfl, by decide, rfl⟩ | exact wideI _ | exact widePr _ | exact wideSk _ | (unfold Room; constructor <;> ((try simp) <;> omega)) | exact ⟨rfl, by simp only [List.length_map], by unfold Room; constructor <;> ((try simp) <;> omega)⟩ | exact ⟨by omega, by omega, by unfold Room; constructor <;> ((try simp) <;> omega)⟩); conv => whnf) | ((with_reducible refine XIx.nat ?_ ?_ ?_); omega; (intro _; rfl); conv => whnf) | ((with_reducible refine XIx.map ?_ ?_ ?_ ?_); omega; omega; (intro _; rfl); conv => whnf) | (with_reducible apply XAnd.mk) | ((with_reducible apply Chk.go); conv => whnf) | ((with_reducible apply ChkA.go); conv => whnf) | ((with_reducible apply ChkF.go); conv => whnf) | ((with_reducible apply ChkB.go); conv => whnf) | (exact XSame.mk rfl rfl) | (exact XSame.mk (by first | rfl | (simp only [List.map_append, List.length_append, List.length_map]; done) | (simp only [List.map_append, List.length_append, List.length_map]; rfl)) (by first | rfl | (simp only [List.map_append]; done) | (simp only [List.map_append]; rfl))) | (with_reducible exact trivial) | ((with_reducible refine xdrop_app (by rw [List.length_map]; omega) ?_); conv => whnf) | ((with_reducible refine XDrop.desk (by assumption) ?_); conv => whnf) | ((with_reducible refine XArr.ints (by omega) (by omega) (by omega) ?_); conv => whnf) | ((with_reducible refine XArr.intsA (by omega) (by omega) (by omega) ?_); conv => whnf) | ((with_reducible refine XArr.nats ?_ ?_ ?_); omega; omega; conv => whnf) | ((with_reducible refine XArr.natsA ?_ ?_ ?_); omega; omega; conv => whnf) | ((with_reducible apply XArr.pim0); conv => whnf) | ((with_reducible apply XArr.pim1); conv => whnf) | ((with_reducible refine XArr.ptr ?_ ?_ ?_); omega; omega; conv => whnf) | ((with_reducible apply XBr.mk') <;> (intro h; conv => whnf))
  refine Walk.loop tab_ok [] (fun k : Nat => k ≤ l.sacks.length ∧ ∀ j, j < k → bs.getD j false = true → Sub (ndS l j) S) (fun k => [(1, .sl nl (bools bs)), (2, .pim (ldC l)), (5, natA (sumW ((wts l).take k) S)), (6, natA k)]) (fun _ => []) (fun k => l.sacks.length - k) 0 ⟨by omega, by omega⟩ rfl ⟨rfl, rfl, rfl, rfl, trivial⟩ ?_
  rintro k ⟨hk, hks⟩
  have sT := fun h => sumW_take (wts l) k S h
  have sB : sumW ((wts l).take k) S ≤ 900 := by
    have := sumW_le ((wts l).take k) S (fun w hw => hws w (List.mem_of_mem_take hw))
    have h2 : ((wts l).take k).length ≤ 9 := by rw [List.length_take]; omega
    omega
  have sA : k = l.sacks.length → sumW ((wts l).take k) S = sumW (wts l) S := fun h => by rw [List.take_of_length_le (by omega)]
  generalize sumW ((wts l).take k) S = sm at sT sB sA
  conv => whnf
  repeat' first | ((with_reducible apply XBr.tt); conv => whnf) | ((with_reducible apply XBr.ff); conv => whnf) | (with_reducible apply XBr.not) | ((with_reducible apply XBr.dec) <;> (intro h; first | (exfalso; omega) | ((try simp only [List.length_map] at h); first | (exfalso; omega) | (conv => whnf)))) | ((with_reducible apply XBr.beq) <;> (intro h; first | (exfalso; omega) | (conv => whnf))) | ((with_reducible apply XBr.bne) <;> (intro h; first | (exfalso; omega) | (conv => whnf))) | ((with_reducible refine XInt.i64 (by omega) (by omega) ?_); conv => whnf) | ((with_reducible refine XHold.mk ?_ ?_); (first | omega | rfl | decide | exact ⟨rfl, by decide, rfl⟩ | exact wideI _ | exact widePr _ | exact wideSk _ | (unfold Room; constructor <;> ((try simp) <;> omega)) | exact ⟨rfl, by simp only [List.length_map], by unfold Room; constructor <;> ((try simp) <;> omega)⟩ | exact ⟨by omega, by omega, by unfold Room; constructor <;> ((try simp) <;> omega)⟩); conv => whnf) | ((with_reducible refine XIx.nat ?_ ?_ ?_); omega; (intro _; rfl); conv => whnf) | ((with_reducible refine XIx.map ?_ ?_ ?_ ?_); omega; omega; (intro _; rfl); conv => whnf) | (with_reducible apply XAnd.mk) | ((with_reducible apply Chk.go); conv => whnf) | ((with_reducible apply ChkA.go); conv => whnf) | ((with_reducible apply ChkF.go); conv => whnf) | ((with_reducible apply ChkB.go); conv => whnf) | (exact XSame.mk rfl rfl) | (exact XSame.mk (by first | rfl | (simp only [List.map_append, List.length_append, List.length_map]; done) | (simp only [List.map_append, List.length_append, List.length_map]; rfl)) (by first | rfl | (simp only [List.map_append]; done) | (simp only [List.map_append]; rfl))) | (with_reducible exact trivial) | ((with_reducible refine xdrop_app (by rw [List.length_map]; omega) ?_); conv => whnf) | ((with_reducible refine XDrop.desk (by assumption) ?_); conv => whnf) | ((with_reducible refine XArr.ints (by omega) (by omega) (by omega) ?_); conv => whnf) | ((with_reducible refine XArr.intsA (by omega) (by omega) (by omega) ?_); conv => whnf) | ((with_reducible refine XArr.nats ?_ ?_ ?_); omega; omega; conv => whnf) | ((with_reducible refine XArr.natsA ?_ ?_ ?_); omega; omega; conv => whnf) | ((with_reducible apply XArr.pim0); conv => whnf) | ((with_reducible apply XArr.pim1); conv => whnf) | ((with_reducible refine XArr.ptr ?_ ?_ ?_); omega; omega; conv => whnf) | ((with_reducible apply XBr.mk') <;> (intro h; conv => whnf))
  · have hw := refWeight_c l o k (by omega)
    have hB := refBundle_c l o k (by omega)
    have hwt := wt_le o (getD_mem (d := default) (show k < l.sacks.length by omega))
    have hwg := wts_get l (show k < l.sacks.length by omega)
    rw [hwg] at sT
    rw [← hwt.1] at hw
    have hbk : bs.getD k false = true := h
    have hsn : sumW ((wts l).take (k + 1)) S = sm + wt l (l.sacks.getD k default) := by
      rw [sT (by omega), if_pos (by rw [hbit]; exact hbk)]
    generalize wt l (l.sacks.getD k default) = w at hw hwt hsn
    have hnd := ndS_lt o k
    have hng := fun j (hj : j < l.sacks.length) => boolN_get (s := ndS l k) hj
    have hnl := boolN_len l.sacks.length (ndS l k)
    generalize boolN l.sacks.length (ndS l k) = ns at hB hng hnl
    repeat' first | ((with_reducible apply XBr.tt); conv => whnf) | ((with_reducible apply XBr.ff); conv => whnf) | (with_reducible apply XBr.not) | ((with_reducible apply XBr.dec) <;> (intro h; first | (exfalso; omega) | ((try simp only [List.length_map] at h); first | (exfalso; omega) | (conv => whnf)))) | ((with_reducible apply XBr.beq) <;> (intro h; first | (exfalso; omega) | (conv => whnf))) | ((with_reducible apply XBr.bne) <;> (intro h; first | (exfalso; omega) | (conv => whnf))) | ((with_reducible refine XInt.i64 (by omega) (by omega) ?_); conv => whnf) | ((with_reducible refine XHold.mk ?_ ?_); (first | omega | rfl | decide | exact ⟨rfl, by decide, rfl⟩ | exact wideI _ | exact widePr _ | exact wideSk _ | (unfold Room; constructor <;> ((try simp) <;> omega)) | exact ⟨rfl, by simp only [List.length_map], by unfold Room; constructor <;> ((try simp) <;> omega)⟩ | exact ⟨by omega, by omega, by unfold Room; constructor <;> ((try simp) <;> omega)⟩); conv => whnf) | ((with_reducible refine XIx.nat ?_ ?_ ?_); omega; (intro _; rfl); conv => whnf) | ((with_reducible refine XIx.map ?_ ?_ ?_ ?_); omega; omega; (intro _; rfl); conv => whnf) | (with_reducible apply XAnd.mk) | ((with_reducible apply Chk.go); conv => whnf) | ((with_reducible apply ChkA.go); conv => whnf) | ((with_reducible apply ChkF.go); conv => whnf) | ((with_reducible apply ChkB.go); conv => whnf) | (exact XSame.mk rfl rfl) | (exact XSame.mk (by first | rfl | (simp only [List.map_append, List.length_append, List.length_map]; done) | (simp only [List.map_append, List.length_append, List.length_map]; rfl)) (by first | rfl | (simp only [List.map_append]; done) | (simp only [List.map_append]; rfl))) | (with_reducible exact trivial) | ((with_reducible refine xdrop_app (by rw [List.length_map]; omega) ?_); conv => whnf) | ((with_reducible refine XDrop.desk (by assumption) ?_); conv => whnf) | ((with_reducible refine XArr.ints (by omega) (by omega) (by omega) ?_); conv => whnf) | ((with_reducible refine XArr.intsA (by omega) (by omega) (by omega) ?_); conv => whnf) | ((with_reducible refine XArr.nats ?_ ?_ ?_); omega; omega; conv => whnf) | ((with_reducible refine XArr.natsA ?_ ?_ ?_); omega; omega; conv => whnf) | ((with_reducible apply XArr.pim0); conv => whnf) | ((with_reducible apply XArr.pim1); conv => whnf) | ((with_reducible refine XArr.ptr ?_ ?_ ?_); omega; omega; conv => whnf) | ((refine XCall.ret hw ?_); conv => whnf) | ((refine XCall.ret hB ?_); conv => whnf) | ((with_reducible apply XBr.mk') <;> (intro h; conv => whnf))
    refine Walk.loop tab_ok [] (fun q : Nat => q ≤ l.sacks.length ∧ ∀ j, j < q → ns.getD j false = true → bs.getD j false = true) (fun q => [(1, .sl nl (bools bs)), (2, .pim (ldC l)), (5, natA (sm + w)), (6, natA k), (7, .sl false (bools ns)), (8, natA q)]) (fun _ => []) (fun q => l.sacks.length - q) 0 ⟨by omega, by omega⟩ rfl ⟨rfl, rfl, rfl, rfl, rfl, rfl, trivial⟩ ?_
    rintro q ⟨hq, hqs⟩
    have e4 : ((bools ns).length : Int) = l.sacks.length := by rw [List.length_map, hnl]
    conv => whnf
    repeat' first | ((with_reducible apply XBr.tt); conv => whnf) | ((with_reducible apply XBr.ff); conv => whnf) | (with_reducible apply XBr.not) | ((with_reducible apply XBr.dec) <;> (intro h; first | (exfalso; omega) | ((try simp only [List.length_map] at h); first | (exfalso; omega) | (conv => whnf)))) | ((with_reducible apply XBr.beq) <;> (intro h; first | (exfalso; omega) | (conv => whnf))) | ((with_reducible apply XBr.bne) <;> (intro h; first | (exfalso; omega) | (conv => whnf))) | ((with_reducible refine XInt.i64 (by omega) (by omega) ?_); conv => whnf) | ((with_reducible refine XHold.mk ?_ ?_); (first | omega | rfl | decide | exact ⟨rfl, by decide, rfl⟩ | exact wideI _ | exact widePr _ | exact wideSk _ | (unfold Room; constructor <;> ((try simp) <;> omega)) | exact ⟨rfl, by simp only [List.length_map], by unfold Room; constructor <;> ((try simp) <;> omega)⟩ | exact ⟨by omega, by omega, by unfold Room; constructor <;> ((try simp) <;> omega)⟩); conv => whnf) | ((with_reducible refine XIx.nat ?_ ?_ ?_); omega; (intro _; rfl); conv => whnf) | ((with_reducible refine XIx.map ?_ ?_ ?_ ?_); omega; omega; (intro _; rfl); conv => whnf) | (with_reducible apply XAnd.mk) | ((with_reducible apply Chk.go); conv => whnf) | ((with_reducible apply ChkA.go); conv => whnf) | ((with_reducible apply ChkF.go); conv => whnf) | ((with_reducible apply ChkB.go); conv => whnf) | (exact XSame.mk rfl rfl) | (exact XSame.mk (by first | rfl | (simp only [List.map_append, List.length_append, List.length_map]; done) | (simp only [List.map_append, List.length_append, List.length_map]; rfl)) (by first | rfl | (simp only [List.map_append]; done) | (simp only [List.map_append]; rfl))) | (with_reducible exact trivial) | ((with_reducible refine xdrop_app (by rw [List.length_map]; omega) ?_); conv => whnf) | ((with_reducible refine XDrop.desk (by assumption) ?_); conv => whnf) | ((with_reducible refine XArr.ints (by omega) (by omega) (by omega) ?_); conv => whnf) | ((with_reducible refine XArr.intsA (by omega) (by omega) (by omega) ?_); conv => whnf) | ((with_reducible refine XArr.nats ?_ ?_ ?_); omega; omega; conv => whnf) | ((with_reducible refine XArr.natsA ?_ ?_ ?_); omega; omega; conv => whnf) | ((with_reducible apply XArr.pim0); conv => whnf) | ((with_reducible apply XArr.pim1); conv => whnf) | ((with_reducible refine XArr.ptr ?_ ?_ ?_); omega; omega; conv => whnf) | ((with_reducible apply XBr.mk') <;> (intro h; conv => whnf))
    · refine XAgain.go (q + 1) ⟨by omega, fun j hj hnj => ?_⟩ (by omega) rfl ⟨rfl, rfl, rfl, rfl, rfl, rfl, trivial⟩
      by_cases e : j = q
      · subst e; exact h
      · exact hqs j (by omega) hnj
    · refine XOut.bool (right_no o hSl fun hr => ?_).symm
      have hq1 : ns.getD q false = true := by assumption
      have hq2 : bs.getD q false = false := h
      have := nd_least hr.wp (i := k) (by rw [hbit]; exact hbk) q (by rw [← ndS, ← hng q (by omega)]; exact hq1)
      rw [hbit, hq2] at this; cases this
    · refine XAgain.go (q + 1) ⟨by omega, fun j hj hnj => ?_⟩ (by omega) rfl ⟨rfl, rfl, rfl, rfl, rfl, rfl, trivial⟩
      by_cases e : j = q
      · subst e; rw [show ns.getD j false = false from h] at hnj; cases hnj
      · exact hqs j (by omega) hnj
    · refine XAgain.go (k + 1) ⟨by omega, fun j hj hbj => ?_⟩ (by omega) rfl ⟨rfl, rfl, ?_, rfl, trivial⟩
      · by_cases e : j = k
        · subst e
          intro x hx
          have hxl := bit_lt hnd hx
          rw [hbit]
          exact hqs x (by omega) (by rw [hng x hxl]; exact hx)
        · exact hks j (by omega) hbj
      · rw [hsn]; rfl
  · refine XAgain.go (k + 1) ⟨by omega, fun j hj hbj => ?_⟩ (by omega) rfl ⟨rfl, rfl, ?_, rfl, trivial⟩
    · by_cases e : j = k
      · subst e; rw [show bs.getD j false = false from h] at hbj; cases hbj
      · exact hks j (by omega) hbj
    · rw [sT (by omega), if_neg (by rw [hbit, show bs.getD k false = false from h]; simp)]; rfl
  have hcl : Cl l S := by
    intro p hp
    have b := o.wp p hp
    have c1 : S.testBit p.1.toNat = true → S.testBit p.2.toNat = true := fun h1 => by
      refine hks p.1.toNat (by omega) (by rw [← hbit]; exact h1) _ ?_
      rw [← nd_cl o _ p hp]; exact nd_self o (by omega)
    have c2 : S.testBit p.2.toNat = true → S.testBit p.1.toNat = true := fun h1 => by
      refine hks p.2.toNat (by omega) (by rw [← hbit]; exact h1) _ ?_
      rw [nd_cl o _ p hp]; exact nd_self o (by omega)
    cases h1 : S.testBit p.1.toNat
    · cases h2 : S.testBit p.2.toNat
      · rfl
      · rw [c2 h2] at h1; cases h1
    · rw [c1 h1]
  obtain rfl : k = l.sacks.length := by omega
  have hsm := sA rfl
  clear sT sA hks
  refine Walk.loop tab_ok [] (fun j : Nat => j ≤ l.apart.length ∧ ∀ i, i < j → ¬ (S.testBit (l.apart.getD i default).1.toNat = true ∧ S.testBit (l.apart.getD i default).2.toNat = true)) (fun j => [(1, .sl nl (bools bs)), (2, .pim (ldC l)), (5, natA sm), (9, natA j)]) (fun _ => []) (fun j => l.apart.length - j) 0 ⟨by omega, by omega⟩ rfl ⟨rfl, rfl, rfl, rfl, trivial⟩ ?_
  rintro j ⟨hj, hjs⟩
  have hap : j < l.apart.length → l.apart.getD j default ∈ l.apart := fun h => getD_mem h
  have hapr : j < l.apart.length → 0 ≤ (l.apart.getD j default).1 ∧ (l.apart.getD j default).1 < l.sacks.length ∧ 0 ≤ (l.apart.getD j default).2 ∧ (l.apart.getD j default).2 < l.sacks.length ∧ (l.apart.getD j default).1 ≠ (l.apart.getD j default).2 := fun h => o.ap _ (hap h)
  conv => whnf
  repeat' first | ((with_reducible apply XBr.tt); conv => whnf) | ((with_reducible apply XBr.ff); conv => whnf) | (with_reducible apply XBr.not) | ((with_reducible apply XBr.dec) <;> (intro h; first | (exfalso; omega) | ((try simp only [List.length_map] at h); first | (exfalso; omega) | (conv => whnf)))) | ((with_reducible apply XBr.beq) <;> (intro h; first | (exfalso; omega) | (conv => whnf))) | ((with_reducible apply XBr.bne) <;> (intro h; first | (exfalso; omega) | (conv => whnf))) | ((with_reducible refine XInt.i64 (by omega) (by omega) ?_); conv => whnf) | ((with_reducible refine XHold.mk ?_ ?_); (first | omega | rfl | decide | exact ⟨rfl, by decide, rfl⟩ | exact wideI _ | exact widePr _ | exact wideSk _ | (unfold Room; constructor <;> ((try simp) <;> omega)) | exact ⟨rfl, by simp only [List.length_map], by unfold Room; constructor <;> ((try simp) <;> omega)⟩ | exact ⟨by omega, by omega, by unfold Room; constructor <;> ((try simp) <;> omega)⟩); conv => whnf) | ((with_reducible refine XIx.nat ?_ ?_ ?_); omega; (intro _; rfl); conv => whnf) | ((with_reducible refine XIx.map ?_ ?_ ?_ ?_); omega; omega; (intro _; rfl); conv => whnf) | (with_reducible apply XAnd.mk) | ((with_reducible apply Chk.go); conv => whnf) | ((with_reducible apply ChkA.go); conv => whnf) | ((with_reducible apply ChkF.go); conv => whnf) | ((with_reducible apply ChkB.go); conv => whnf) | (exact XSame.mk rfl rfl) | (exact XSame.mk (by first | rfl | (simp only [List.map_append, List.length_append, List.length_map]; done) | (simp only [List.map_append, List.length_append, List.length_map]; rfl)) (by first | rfl | (simp only [List.map_append]; done) | (simp only [List.map_append]; rfl))) | (with_reducible exact trivial) | ((with_reducible refine xdrop_app (by rw [List.length_map]; omega) ?_); conv => whnf) | ((with_reducible refine XDrop.desk (by assumption) ?_); conv => whnf) | ((with_reducible refine XArr.ints (by omega) (by omega) (by omega) ?_); conv => whnf) | ((with_reducible refine XArr.intsA (by omega) (by omega) (by omega) ?_); conv => whnf) | ((with_reducible refine XArr.nats ?_ ?_ ?_); omega; omega; conv => whnf) | ((with_reducible refine XArr.natsA ?_ ?_ ?_); omega; omega; conv => whnf) | ((with_reducible apply XArr.pim0); conv => whnf) | ((with_reducible apply XArr.pim1); conv => whnf) | ((with_reducible refine XArr.ptr ?_ ?_ ?_); omega; omega; conv => whnf) | ((refine XArr.mk (by decide) (by decide) ?_); conv => whnf) | ((refine XIx.map (by have := hapr (by omega); omega) (by have := hapr (by omega); omega) (fun _ => rfl) ?_); conv => whnf) | ((with_reducible apply XBr.mk') <;> (intro h; conv => whnf))
  · refine XOut.bool (right_no o hSl fun hr => ?_).symm
    have h1 : bs.getD (l.apart.getD j default).1.toNat false = true := by assumption
    have h2 : bs.getD (l.apart.getD j default).2.toNat false = true := h
    exact hr.ap _ (hap (by omega)) ⟨by rw [hbit]; exact h1, by rw [hbit]; exact h2⟩
  · refine XAgain.go (j + 1) ⟨by omega, fun i hi hh => ?_⟩ (by omega) rfl ⟨rfl, rfl, rfl, rfl, trivial⟩
    by_cases e : i = j
    · subst e
      have h2 : bs.getD (l.apart.getD i default).2.toNat false = false := h
      rw [hbit, hbit, h2] at hh; cases hh.2
    · exact hjs i (by omega) hh
  · refine XAgain.go (j + 1) ⟨by omega, fun i hi hh => ?_⟩ (by omega) rfl ⟨rfl, rfl, rfl, rfl, trivial⟩
    by_cases e : i = j
    · subst e
      have h2 : bs.getD (l.apart.getD i default).1.toNat false = false := h
      rw [hbit, hbit, h2] at hh; cases hh.1
    · exact hjs i (by omega) hh
  · refine XOut.bool ?_
    rw [Bool.eq_iff_iff, right_iff o hSl, decide_eq_true_eq]
    constructor
    · intro hw
      refine ⟨by rw [← hsm]; exact hw, hcl, fun p hp => ?_⟩
      obtain ⟨i, hi, rfl⟩ := List.mem_iff_getElem.1 hp
      have := hjs i (by omega)
      rwa [List.getD_eq_getElem?_getD (l := l.apart), List.getElem?_eq_getElem hi] at this
    · intro hr; have := hr.w; rw [← hsm] at this; exact this
end GA
end

section
namespace GA
open Go Go.RowKit Go.Proofs
set_option pp.deepTerms true
set_option maxRecDepth 8000
set_option linter.unusedVariables false
set_option linter.unusedSimpArgs false

def isF (l : Ld) (i : Nat) : Bool := lowb (ndS l i) == 2 ^ i
def bunK (l : Ld) : Nat → List (List Int)
  | 0 => []
  | k + 1 => if isF l k = true then bunK l k ++ [bits (ndS l k)] else bunK l k
def stuK (l : Ld) : Nat → List Int
  | 0 => []
  | k + 1 => if (isF l k && !rightB (openD l) (ndS l k)) = true then stuK l k ++ [(k : Int)] else stuK l k
theorem bunK_len (l : Ld) : ∀ k, (bunK l k).length ≤ k
  | 0 => Nat.le_refl _
  | k + 1 => by have := bunK_len l k; unfold bunK; split <;> simp <;> omega
theorem stuK_len (l : Ld) : ∀ k, (stuK l k).length ≤ k
  | 0 => Nat.le_refl _
  | k + 1 => by have := stuK_len l k; unfold stuK; split <;> simp <;> omega
abbrev rowsA (xs : List (List Int)) : List AV := xs.map slA
theorem lowRw {n : Nat} (xs : List (List Int)) : lowL n (rowsA xs) = true := lowL_map (f := slA) (fun x => (lowI x : lowL n (ints x) = true)) xs
theorem wideRw (xs : List (List Int)) : wide 1 (rowsA xs) = true := wide_map (f := slA) (n := 1) (fun _ => rfl) (fun _ => rfl) xs
def bundlesA (l : Ld) : AV := if checkR l = 0 then .tup [.sl (bunK l l.sacks.length).isEmpty (rowsA (bunK l l.sacks.length)), .int .i64 0] else .tup [.sl true [], .int .i64 (checkR l)]
def stuckA (l : Ld) : AV := if checkR l = 0 then .tup [slA (stuK l l.sacks.length), .int .i64 0] else .tup [.sl true [], .int .i64 (checkR l)]
theorem isF_eq {s k : Nat} (hs : s < 512) (hk : k ≤ 9) : (iand .i64 (s : Int) (0 - (s : Int)) == ((2 ^ k : Nat) : Int)) = (lowb s == 2 ^ k) := by
  rw [low_int hs]
  rw [Bool.eq_iff_iff, beq_iff_eq, beq_iff_eq]
  omega
theorem bundles_c (l : Ld) (o : LdW l) : Comp Try.prog 46 [ldA l] (bundlesA l) := by
  refine Comp.body (T := tab) (res := [.tmp 2, .tmp 3]) tab_ok [] Try.func46 rfl (by kernel_rfl) Try.ntmps46 rfl (by simp only [List.length_cons, List.length_nil]; decide) (by simp only [lowL, AV.low, ldL]; rfl) ?_; conv => whnf
  refine XCall.ret (opened_c l o.w o.h1 o.h2 o.h3) ?_
  unfold openR bundlesA
  by_cases h0 : checkR l = 0
  · have ok := (checkR_ok l).1 h0
    have hn := ok.n
    have dok := openD_full ok
    have e1 : ((l.sacks.map skA).length : Int) = l.sacks.length := by rw [List.length_map]
    have hhv := dok.hv
    have hnd := dok.nd
    have hdn : ∀ k, (openD l).nd.getD k 0 = ndS l k := fun _ => rfl
    have hrd := fun k => right_c (openD l) dok (ndS l k) (by have := ndS_lt ok k; have := pow9 hn; omega)
    rw [if_pos h0, if_pos h0]
    have hnxt : ∀ k, bunK l (k + 1) = if isF l k = true then bunK l k ++ [bits (ndS l k)] else bunK l k := fun _ => rfl
    generalize openD l = d at dok hhv hnd hdn hrd hnxt
    conv => whnf
    repeat' first | ((with_reducible apply XBr.tt); conv => whnf) | ((with_reducible apply XBr.ff); conv => whnf) | (with_reducible apply XBr.not) | ((with_reducible apply XBr.dec) <;> (intro h; first | (exfalso; omega) | ((try simp only [List.length_map] at h); first | (exfalso; omega) | (conv => whnf)))) | ((with_reducible apply XBr.beq) <;> (intro h; first | (exfalso; omega) | (conv => whnf))) | ((with_reducible apply XBr.bne) <;> (intro h; first | (exfalso; omega) | (conv => whnf))) | ((with_reducible refine XInt.i64 (by omega) (by omega) ?_); conv => whnf) | ((with_reducible refine XHold.mk ?_ ?_); (first | omega | rfl | decide | exact ⟨rfl, by decide, rfl⟩ | exact wideI _ | exact widePr _ | exact wideSk _ | (unfold Room; constructor <;> ((try simp) <;> omega)) | exact ⟨rfl, by simp only [List.length_map], by unfold Room; constructor <;> ((try simp) <;> omega)⟩ | exact ⟨by omega, by omega, by unfold Room; constructor <;> ((try simp) <;> omega)⟩); conv => whnf) | ((with_reducible refine XIx.nat ?_ ?_ ?_); omega; (intro _; rfl); conv => whnf) | ((with_reducible refine XIx.map ?_ ?_ ?_ ?_); omega; omega; (intro _; rfl); conv => whnf) | (with_reducible apply XAnd.mk) | ((with_reducible apply Chk.go); conv => whnf) | ((with_reducible apply ChkA.go); conv => whnf) | ((with_reducible apply ChkF.go); conv => whnf) | ((with_reducible apply ChkB.go); conv => whnf) | (exact XSame.mk rfl rfl) | (exact XSame.mk (by first | rfl | (simp only [List.map_append, List.length_append, List.length_map]; done) | (simp only [List.map_append, List.length_append, List.length_map]; rfl)) (by first | rfl | (simp only [List.map_append]; done) | (simp only [List.map_append]; rfl))) | (with_reducible exact trivial) | ((with_reducible refine xdrop_app (by rw [List.length_map]; omega) ?_); conv => whnf) | ((with_reducible refine XDrop.desk (by assumption) ?_); conv => whnf) | ((with_reducible refine XArr.ints (by omega) (by omega) (by omega) ?_); conv => whnf) | ((with_reducible refine XArr.intsA (by omega) (by omega) (by omega) ?_); conv => whnf) | ((with_reducible refine XArr.nats ?_ ?_ ?_); omega; omega; conv => whnf) | ((with_reducible refine XArr.natsA ?_ ?_ ?_); omega; omega; conv => whnf) | ((with_reducible apply XArr.pim0); conv => whnf) | ((with_reducible apply XArr.pim1); conv => whnf) | ((with_reducible refine XArr.ptr ?_ ?_ ?_); omega; omega; conv => whnf) | ((with_reducible apply XBr.mk') <;> (intro h; conv => whnf))
    refine Walk.nilgr 6 30 rfl ?_
    refine Walk.loop tab_ok [] (fun k : Nat => k ≤ l.sacks.length) (fun k => [(2, .sl true []), (3, .int .i64 0), (4, .pim (deskC d)), (19, natA l.sacks.length), (6, .gr 0 (bunK l k).length), (20, natA k)]) (fun k => [.grow 30 (bunK l k).isEmpty (rowsA (bunK l k))]) (fun k => l.sacks.length - k) 0 (Nat.zero_le _) rfl ⟨rfl, rfl, rfl, congrArg (fun n => some (AV.int .i64 n)) e1, rfl, rfl, trivial⟩ ?_
    intro k hk
    have hl := bunK_len l k
    have hnx := hnxt k
    have hall : k = l.sacks.length → bunK l k = bunK l l.sacks.length := fun h => by rw [h]
    generalize bunK l k = bk at hl hnx hall
    have hk9 := pow9 (n := k) (by omega)
    have hsl := ndS_lt ok k
    have hs9 := pow9 hn
    have hF := isF_eq (s := ndS l k) (k := k) (by omega) (by omega)
    have hli := list_c (ndS l k) (by omega)
    have hrt := hrd k
    rw [show (lowb (ndS l k) == 2 ^ k) = isF l k from rfl] at hF
    rw [← hdn] at hF hli hsl hrt hnx
    conv => whnf
    repeat' first | ((with_reducible apply XBr.tt); conv => whnf) | ((with_reducible apply XBr.ff); conv => whnf) | (with_reducible apply XBr.not) | ((with_reducible apply XBr.dec) <;> (intro h; first | (exfalso; omega) | ((try simp only [List.length_map] at h); first | (exfalso; omega) | (conv => whnf)))) | ((with_reducible apply XBr.beq) <;> (intro h; first | (exfalso; omega) | (conv => whnf))) | ((with_reducible apply XBr.bne) <;> (intro h; first | (exfalso; omega) | (conv => whnf))) | ((with_reducible refine XInt.i64 (by omega) (by omega) ?_); conv => whnf) | ((with_reducible refine XHold.mk ?_ ?_); (first | omega | rfl | decide | exact ⟨rfl, by decide, rfl⟩ | exact wideI _ | exact widePr _ | exact wideSk _ | (unfold Room; constructor <;> ((try simp) <;> omega)) | exact ⟨rfl, by simp only [List.length_map], by unfold Room; constructor <;> ((try simp) <;> omega)⟩ | exact ⟨by omega, by omega, by unfold Room; constructor <;> ((try simp) <;> omega)⟩); conv => whnf) | ((with_reducible refine XIx.nat ?_ ?_ ?_); omega; (intro _; rfl); conv => whnf) | ((with_reducible refine XIx.map ?_ ?_ ?_ ?_); omega; omega; (intro _; rfl); conv => whnf) | (with_reducible apply XAnd.mk) | ((with_reducible apply Chk.go); conv => whnf) | ((with_reducible apply ChkA.go); conv => whnf) | ((with_reducible apply ChkF.go); conv => whnf) | ((with_reducible apply ChkB.go); conv => whnf) | (exact XSame.mk rfl rfl) | (exact XSame.mk (by first | rfl | (simp only [List.map_append, List.length_append, List.length_map]; done) | (simp only [List.map_append, List.length_append, List.length_map]; rfl)) (by first | rfl | (simp only [List.map_append]; done) | (simp only [List.map_append]; rfl))) | (with_reducible exact trivial) | ((with_reducible refine xdrop_app (by rw [List.length_map]; omega) ?_); conv => whnf) | ((with_reducible refine XDrop.desk (by assumption) ?_); conv => whnf) | ((with_reducible refine XArr.ints (by omega) (by omega) (by omega) ?_); conv => whnf) | ((with_reducible refine XArr.intsA (by omega) (by omega) (by omega) ?_); conv => whnf) | ((with_reducible refine XArr.nats ?_ ?_ ?_); omega; omega; conv => whnf) | ((with_reducible refine XArr.natsA ?_ ?_ ?_); omega; omega; conv => whnf) | ((with_reducible apply XArr.pim0); conv => whnf) | ((with_reducible apply XArr.pim1); conv => whnf) | ((with_reducible refine XArr.ptr ?_ ?_ ?_); omega; omega; conv => whnf) | ((refine XInt.eq (shl_nat (by omega)) (by omega) (by omega) ?_); conv => whnf) | ((refine XCall.ret hli ?_); conv => whnf) | ((refine XHold.mk (by rw [List.length_map]) ?_); conv => whnf) | ((refine XHold.mk (wideRw [_]) ?_); conv => whnf) | ((refine XHold.mk ⟨rfl, by rw [List.length_map], by unfold Room; constructor <;> ((try simp) <;> omega)⟩ ?_); conv => whnf) | ((with_reducible apply XBr.mk') <;> (intro h; conv => whnf))
    · have hT : isF l k = true := by rw [← hF, beq_iff_eq]; exact h
      refine XAgain.go (k + 1) (by omega) (by omega) ?_ ⟨rfl, rfl, rfl, rfl, ?_, rfl, trivial⟩
      · rw [hnx, if_pos hT]; simp only [List.map_append, isEmpty_app]; rfl
      · rw [hnx, if_pos hT]; simp only [List.length_append]; rfl
    · have hT : ¬ isF l k = true := by rw [← hF, beq_iff_eq]; exact h
      refine XAgain.go (k + 1) (by omega) (by omega) ?_ ⟨rfl, rfl, rfl, rfl, ?_, rfl, trivial⟩
      · rw [hnx, if_neg hT]
      · rw [hnx, if_neg hT]; rfl
    · rw [← hall (by omega)]
      exact ⟨Froz.tup (.cons (Froz.grow rfl (by rw [List.length_map]) (lowRw _)) (.cons (Froz.low rfl) .nil))⟩
  · rw [if_neg h0, if_neg h0]
    conv => whnf
    repeat' first | ((with_reducible apply XBr.tt); conv => whnf) | ((with_reducible apply XBr.ff); conv => whnf) | (with_reducible apply XBr.not) | ((with_reducible apply XBr.dec) <;> (intro h; first | (exfalso; omega) | ((try simp only [List.length_map] at h); first | (exfalso; omega) | (conv => whnf)))) | ((with_reducible apply XBr.beq) <;> (intro h; first | (exfalso; omega) | (conv => whnf))) | ((with_reducible apply XBr.bne) <;> (intro h; first | (exfalso; omega) | (conv => whnf))) | ((with_reducible refine XInt.i64 (by omega) (by omega) ?_); conv => whnf) | ((with_reducible refine XHold.mk ?_ ?_); (first | omega | rfl | decide | exact ⟨rfl, by decide, rfl⟩ | exact wideI _ | exact widePr _ | exact wideSk _ | (unfold Room; constructor <;> ((try simp) <;> omega)) | exact ⟨rfl, by simp only [List.length_map], by unfold Room; constructor <;> ((try simp) <;> omega)⟩ | exact ⟨by omega, by omega, by unfold Room; constructor <;> ((try simp) <;> omega)⟩); conv => whnf) | ((with_reducible refine XIx.nat ?_ ?_ ?_); omega; (intro _; rfl); conv => whnf) | ((with_reducible refine XIx.map ?_ ?_ ?_ ?_); omega; omega; (intro _; rfl); conv => whnf) | (with_reducible apply XAnd.mk) | ((with_reducible apply Chk.go); conv => whnf) | ((with_reducible apply ChkA.go); conv => whnf) | ((with_reducible apply ChkF.go); conv => whnf) | ((with_reducible apply ChkB.go); conv => whnf) | (exact XSame.mk rfl rfl) | (exact XSame.mk (by first | rfl | (simp only [List.map_append, List.length_append, List.length_map]; done) | (simp only [List.map_append, List.length_append, List.length_map]; rfl)) (by first | rfl | (simp only [List.map_append]; done) | (simp only [List.map_append]; rfl))) | (with_reducible exact trivial) | ((with_reducible refine xdrop_app (by rw [List.length_map]; omega) ?_); conv => whnf) | ((with_reducible refine XDrop.desk (by assumption) ?_); conv => whnf) | ((with_reducible refine XArr.ints (by omega) (by omega) (by omega) ?_); conv => whnf) | ((with_reducible refine XArr.intsA (by omega) (by omega) (by omega) ?_); conv => whnf) | ((with_reducible refine XArr.nats ?_ ?_ ?_); omega; omega; conv => whnf) | ((with_reducible refine XArr.natsA ?_ ?_ ?_); omega; omega; conv => whnf) | ((with_reducible apply XArr.pim0); conv => whnf) | ((with_reducible apply XArr.pim1); conv => whnf) | ((with_reducible refine XArr.ptr ?_ ?_ ?_); omega; omega; conv => whnf) | ((with_reducible apply XBr.mk') <;> (intro h; conv => whnf))
    exact ⟨Froz.low rfl⟩
theorem stuck_c (l : Ld) (o : LdW l) : Comp Try.prog 47 [ldA l] (stuckA l) := by
  refine Comp.body (T := tab) (res := [.tmp 2, .tmp 3]) tab_ok [] Try.func47 rfl (by kernel_rfl) Try.ntmps47 rfl (by simp only [List.length_cons, List.length_nil]; decide) (by simp only [lowL, AV.low, ldL]; rfl) ?_; conv => whnf
  refine XCall.ret (opened_c l o.w o.h1 o.h2 o.h3) ?_
  unfold openR stuckA
  by_cases h0 : checkR l = 0
  · have ok := (checkR_ok l).1 h0
    have hn := ok.n
    have dok := openD_full ok
    have e1 : ((l.sacks.map skA).length : Int) = l.sacks.length := by rw [List.length_map]
    have hhv := dok.hv
    have hnd := dok.nd
    have hdn : ∀ k, (openD l).nd.getD k 0 = ndS l k := fun _ => rfl
    have hrd := fun k => right_c (openD l) dok (ndS l k) (by have := ndS_lt ok k; have := pow9 hn; omega)
    rw [if_pos h0, if_pos h0]
    have hnxt : ∀ k, stuK l (k + 1) = if (isF l k && !rightB (openD l) (ndS l k)) = true then stuK l k ++ [(k : Int)] else stuK l k := fun _ => rfl
    generalize openD l = d at dok hhv hnd hdn hrd hnxt
    conv => whnf
    repeat' first | ((with_reducible apply XBr.tt); conv => whnf) | ((with_reducible apply XBr.ff); conv => whnf) | (with_reducible apply XBr.not) | ((with_reducible apply XBr.dec) <;> (intro h; first | (exfalso; omega) | ((try simp only [List.length_map] at h); first | (exfalso; omega) | (conv => whnf)))) | ((with_reducible apply XBr.beq) <;> (intro h; first | (exfalso; omega) | (conv => whnf))) | ((with_reducible apply XBr.bne) <;> (intro h; first | (exfalso; omega) | (conv => whnf))) | ((with_reducible refine XInt.i64 (by omega) (by omega) ?_); conv => whnf) | ((with_reducible refine XHold.mk ?_ ?_); (first | omega | rfl | decide | exact ⟨rfl, by decide, rfl⟩ | exact wideI _ | exact widePr _ | exact wideSk _ | (unfold Room; constructor <;> ((try simp) <;> omega)) | exact ⟨rfl, by simp only [List.length_map], by unfold Room; constructor <;> ((try simp) <;> omega)⟩ | exact ⟨by omega, by omega, by unfold Room; constructor <;> ((try simp) <;> omega)⟩); conv => whnf) | ((with_reducible refine XIx.nat ?_ ?_ ?_); omega; (intro _; rfl); conv => whnf) | ((with_reducible refine XIx.map ?_ ?_ ?_ ?_); omega; omega; (intro _; rfl); conv => whnf) | (with_reducible apply XAnd.mk) | ((with_reducible apply Chk.go); conv => whnf) | ((with_reducible apply ChkA.go); conv => whnf) | ((with_reducible apply ChkF.go); conv => whnf) | ((with_reducible apply ChkB.go); conv => whnf) | (exact XSame.mk rfl rfl) | (exact XSame.mk (by first | rfl | (simp only [List.map_append, List.length_append, List.length_map]; done) | (simp only [List.map_append, List.length_append, List.length_map]; rfl)) (by first | rfl | (simp only [List.map_append]; done) | (simp only [List.map_append]; rfl))) | (with_reducible exact trivial) | ((with_reducible refine xdrop_app (by rw [List.length_map]; omega) ?_); conv => whnf) | ((with_reducible refine XDrop.desk (by assumption) ?_); conv => whnf) | ((with_reducible refine XArr.ints (by omega) (by omega) (by omega) ?_); conv => whnf) | ((with_reducible refine XArr.intsA (by omega) (by omega) (by omega) ?_); conv => whnf) | ((with_reducible refine XArr.nats ?_ ?_ ?_); omega; omega; conv => whnf) | ((with_reducible refine XArr.natsA ?_ ?_ ?_); omega; omega; conv => whnf) | ((with_reducible apply XArr.pim0); conv => whnf) | ((with_reducible apply XArr.pim1); conv => whnf) | ((with_reducible refine XArr.ptr ?_ ?_ ?_); omega; omega; conv => whnf) | ((with_reducible apply XBr.mk') <;> (intro h; conv => whnf))
    refine Walk.nilgr 6 3 rfl ?_
    refine Walk.loop tab_ok [] (fun k : Nat => k ≤ l.sacks.length) (fun k => [(2, .sl true []), (3, .int .i64 0), (4, .pim (deskC d)), (19, natA l.sacks.length), (6, .gr 0 (stuK l k).length), (20, natA k)]) (fun k => [.grow 3 (stuK l k).isEmpty (ints (stuK l k))]) (fun k => l.sacks.length - k) 0 (Nat.zero_le _) rfl ⟨rfl, rfl, rfl, congrArg (fun n => some (AV.int .i64 n)) e1, rfl, rfl, trivial⟩ ?_
    intro k hk
    have hl := stuK_len l k
    have hnx := hnxt k
    have hall : k = l.sacks.length → stuK l k = stuK l l.sacks.length := fun h => by rw [h]
    generalize stuK l k = bk at hl hnx hall
    have hk9 := pow9 (n := k) (by omega)
    have hsl := ndS_lt ok k
    have hs9 := pow9 hn
    have hF := isF_eq (s := ndS l k) (k := k) (by omega) (by omega)
    have hli := list_c (ndS l k) (by omega)
    have hrt := hrd k
    rw [show (lowb (ndS l k) == 2 ^ k) = isF l k from rfl] at hF
    rw [← hdn] at hF hli hsl hrt hnx
    conv => whnf
    repeat' first | ((with_reducible apply XBr.tt); conv => whnf) | ((with_reducible apply XBr.ff); conv => whnf) | (with_reducible apply XBr.not) | ((with_reducible apply XBr.dec) <;> (intro h; first | (exfalso; omega) | ((try simp only [List.length_map] at h); first | (exfalso; omega) | (conv => whnf)))) | ((with_reducible apply XBr.beq) <;> (intro h; first | (exfalso; omega) | (conv => whnf))) | ((with_reducible apply XBr.bne) <;> (intro h; first | (exfalso; omega) | (conv => whnf))) | ((with_reducible refine XInt.i64 (by omega) (by omega) ?_); conv => whnf) | ((with_reducible refine XHold.mk ?_ ?_); (first | omega | rfl | decide | exact ⟨rfl, by decide, rfl⟩ | exact wideI _ | exact widePr _ | exact wideSk _ | (unfold Room; constructor <;> ((try simp) <;> omega)) | exact ⟨rfl, by simp only [List.length_map], by unfold Room; constructor <;> ((try simp) <;> omega)⟩ | exact ⟨by omega, by omega, by unfold Room; constructor <;> ((try simp) <;> omega)⟩); conv => whnf) | ((with_reducible refine XIx.nat ?_ ?_ ?_); omega; (intro _; rfl); conv => whnf) | ((with_reducible refine XIx.map ?_ ?_ ?_ ?_); omega; omega; (intro _; rfl); conv => whnf) | (with_reducible apply XAnd.mk) | ((with_reducible apply Chk.go); conv => whnf) | ((with_reducible apply ChkA.go); conv => whnf) | ((with_reducible apply ChkF.go); conv => whnf) | ((with_reducible apply ChkB.go); conv => whnf) | (exact XSame.mk rfl rfl) | (exact XSame.mk (by first | rfl | (simp only [List.map_append, List.length_append, List.length_map]; done) | (simp only [List.map_append, List.length_append, List.length_map]; rfl)) (by first | rfl | (simp only [List.map_append]; done) | (simp only [List.map_append]; rfl))) | (with_reducible exact trivial) | ((with_reducible refine xdrop_app (by rw [List.length_map]; omega) ?_); conv => whnf) | ((with_reducible refine XDrop.desk (by assumption) ?_); conv => whnf) | ((with_reducible refine XArr.ints (by omega) (by omega) (by omega) ?_); conv => whnf) | ((with_reducible refine XArr.intsA (by omega) (by omega) (by omega) ?_); conv => whnf) | ((with_reducible refine XArr.nats ?_ ?_ ?_); omega; omega; conv => whnf) | ((with_reducible refine XArr.natsA ?_ ?_ ?_); omega; omega; conv => whnf) | ((with_reducible apply XArr.pim0); conv => whnf) | ((with_reducible apply XArr.pim1); conv => whnf) | ((with_reducible refine XArr.ptr ?_ ?_ ?_); omega; omega; conv => whnf) | ((refine XInt.eq (shl_nat (by omega)) (by omega) (by omega) ?_); conv => whnf) | ((refine XCall.ret hrt ?_); conv => whnf) | ((refine XHold.mk ⟨rfl, by rw [List.length_map], by unfold Room; constructor <;> ((try simp) <;> omega)⟩ ?_); conv => whnf) | ((with_reducible apply XBr.mk') <;> (intro h; conv => whnf))
    · have hT : ¬ (isF l k && !rightB d (d.nd.getD k 0)) = true := by rw [h]; simp
      refine XAgain.go (k + 1) (by omega) (by omega) ?_ ⟨rfl, rfl, rfl, rfl, ?_, rfl, trivial⟩
      · rw [hnx, if_neg hT]
      · rw [hnx, if_neg hT]; rfl
    · have hT : (isF l k && !rightB d (d.nd.getD k 0)) = true := by rename_i hx; rw [h, ← hF, hx]; simp
      refine XAgain.go (k + 1) (by omega) (by omega) ?_ ⟨rfl, rfl, rfl, rfl, ?_, rfl, trivial⟩
      · rw [hnx, if_pos hT]; simp only [List.map_append, isEmpty_app]; rfl
      · rw [hnx, if_pos hT]; simp only [List.length_append]; rfl
    · have hT : ¬ (isF l k && !rightB d (d.nd.getD k 0)) = true := by rw [← hF, beq_eq_false_iff_ne.2 h]; simp
      refine XAgain.go (k + 1) (by omega) (by omega) ?_ ⟨rfl, rfl, rfl, rfl, ?_, rfl, trivial⟩
      · rw [hnx, if_neg hT]
      · rw [hnx, if_neg hT]; rfl
    · rw [← hall (by omega)]
      exact ⟨Froz.tup (.cons (by unfold slA; exact Froz.grow rfl (by rw [List.length_map]) (lowI _)) (.cons (Froz.low rfl) .nil))⟩
  · rw [if_neg h0, if_neg h0]
    conv => whnf
    repeat' first | ((with_reducible apply XBr.tt); conv => whnf) | ((with_reducible apply XBr.ff); conv => whnf) | (with_reducible apply XBr.not) | ((with_reducible apply XBr.dec) <;> (intro h; first | (exfalso; omega) | ((try simp only [List.length_map] at h); first | (exfalso; omega) | (conv => whnf)))) | ((with_reducible apply XBr.beq) <;> (intro h; first | (exfalso; omega) | (conv => whnf))) | ((with_reducible apply XBr.bne) <;> (intro h; first | (exfalso; omega) | (conv => whnf))) | ((with_reducible refine XInt.i64 (by omega) (by omega) ?_); conv => whnf) | ((with_reducible refine XHold.mk ?_ ?_); (first | omega | rfl | decide | exact ⟨rfl, by decide, rfl⟩ | exact wideI _ | exact widePr _ | exact wideSk _ | (unfold Room; constructor <;> ((try simp) <;> omega)) | exact ⟨rfl, by simp only [List.length_map], by unfold Room; constructor <;> ((try simp) <;> omega)⟩ | exact ⟨by omega, by omega, by unfold Room; constructor <;> ((try simp) <;> omega)⟩); conv => whnf) | ((with_reducible refine XIx.nat ?_ ?_ ?_); omega; (intro _; rfl); conv => whnf) | ((with_reducible refine XIx.map ?_ ?_ ?_ ?_); omega; omega; (intro _; rfl); conv => whnf) | (with_reducible apply XAnd.mk) | ((with_reducible apply Chk.go); conv => whnf) | ((with_reducible apply ChkA.go); conv => whnf) | ((with_reducible apply ChkF.go); conv => whnf) | ((with_reducible apply ChkB.go); conv => whnf) | (exact XSame.mk rfl rfl) | (exact XSame.mk (by first | rfl | (simp only [List.map_append, List.length_append, List.length_map]; done) | (simp only [List.map_append, List.length_append, List.length_map]; rfl)) (by first | rfl | (simp only [List.map_append]; done) | (simp only [List.map_append]; rfl))) | (with_reducible exact trivial) | ((with_reducible refine xdrop_app (by rw [List.length_map]; omega) ?_); conv => whnf) | ((with_reducible refine XDrop.desk (by assumption) ?_); conv => whnf) | ((with_reducible refine XArr.ints (by omega) (by omega) (by omega) ?_); conv => whnf) | ((with_reducible refine XArr.intsA (by omega) (by omega) (by omega) ?_); conv => whnf) | ((with_reducible refine XArr.nats ?_ ?_ ?_); omega; omega; conv => whnf) | ((with_reducible refine XArr.natsA ?_ ?_ ?_); omega; omega; conv => whnf) | ((with_reducible apply XArr.pim0); conv => whnf) | ((with_reducible apply XArr.pim1); conv => whnf) | ((with_reducible refine XArr.ptr ?_ ?_ ?_); omega; omega; conv => whnf) | ((with_reducible apply XBr.mk') <;> (intro h; conv => whnf))
    exact ⟨Froz.low rfl⟩
end GA
end

section
namespace GA
open Go Go.RowKit Go.Proofs
set_option pp.deepTerms true
set_option maxRecDepth 8000
set_option linter.unusedVariables false
set_option linter.unusedSimpArgs false

theorem equalI (n1 n2 : Bool) (xs : List Int) (hx : xs.length ≤ 100000) : Comp Try.prog 91 [.sl n1 (ints xs), .sl n2 (ints xs)] (.bool true) := by
  have h := equal_int n1 n2 xs xs hx
  rwa [show (xs == xs) = true by simp] at h
theorem eqI (n1 n2 : Bool) (xs : List Int) (hx : xs.length ≤ 100000) : Comp Try.prog 30 [.sl n1 (ints xs), .sl n2 (ints xs)] (.bool true) := by
  have h := eq_int n1 n2 xs xs hx
  rwa [show (xs == xs) = true by simp] at h
theorem equalRows (n1 n2 : Bool) (xs : List (List Int)) (hx : xs.length ≤ 1000) (hr : ∀ r ∈ xs, r.length ≤ 1000) : Comp Try.prog 110 [.sl n1 (rowsA xs), .sl n2 (rowsA xs), .fn 91 []] (.bool true) := by
  refine Comp.body (T := tab) (res := [.tmp 6]) tab_ok [] Try.func110 rfl (by kernel_rfl) Try.ntmps110 rfl (by simp only [List.length_cons, List.length_nil]; decide) (by simp only [lowL, AV.low, lowRw]; rfl) ?_; conv => whnf
  repeat' first | ((with_reducible apply XBr.tt); conv => whnf) | ((with_reducible apply XBr.ff); conv => whnf) | (with_reducible apply XBr.not) | ((with_reducible apply XBr.dec) <;> (intro h; first | (exfalso; omega) | ((try simp only [List.length_map] at h); first | (exfalso; omega) | (conv => whnf)))) | ((with_reducible apply XBr.beq) <;> (intro h; first | (exfalso; omega) | (conv => whnf))) | ((with_reducible apply XBr.bne) <;> (intro h; first | (exfalso; omega) | (conv => whnf))) | ((with_reducible refine XInt.i64 (by omega) (by omega) ?_); conv => whnf) | ((with_reducible refine XHold.mk ?_ ?_); (first | omega | rfl | decide | exact ⟨rfl, by decide, rfl⟩ | exact wideI _ | exact widePr _ | exact wideSk _ | (unfold Room; constructor <;> ((try simp) <;> omega)) | exact ⟨rfl, by simp only [List.length_map], by unfold Room; constructor <;> ((try simp) <;> omega)⟩ | exact ⟨by omega, by omega, by unfold Room; constructor <;> ((try simp) <;> omega)⟩); conv => whnf) | ((with_reducible refine XIx.nat ?_ ?_ ?_); omega; (intro _; rfl); conv => whnf) | ((with_reducible refine XIx.map ?_ ?_ ?_ ?_); omega; omega; (intro _; rfl); conv => whnf) | (with_reducible apply XAnd.mk) | ((with_reducible apply Chk.go); conv => whnf) | ((with_reducible apply ChkA.go); conv => whnf) | ((with_reducible apply ChkF.go); conv => whnf) | ((with_reducible apply ChkB.go); conv => whnf) | (exact XSame.mk rfl rfl) | (exact XSame.mk (by first | rfl | (simp only [List.map_append, List.length_append, List.length_map]; done) | (simp only [List.map_append, List.length_append, List.length_map]; rfl)) (by first | rfl | (simp only [List.map_append]; done) | (simp only [List.map_append]; rfl))) | (with_reducible exact trivial) | ((with_reducible refine xdrop_app (by rw [List.length_map]; omega) ?_); conv => whnf) | ((with_reducible refine XDrop.desk (by assumption) ?_); conv => whnf) | ((with_reducible refine XArr.ints (by omega) (by omega) (by omega) ?_); conv => whnf) | ((with_reducible refine XArr.intsA (by omega) (by omega) (by omega) ?_); conv => whnf) | ((with_reducible refine XArr.nats ?_ ?_ ?_); omega; omega; conv => whnf) | ((with_reducible refine XArr.natsA ?_ ?_ ?_); omega; omega; conv => whnf) | ((with_reducible apply XArr.pim0); conv => whnf) | ((with_reducible apply XArr.pim1); conv => whnf) | ((with_reducible refine XArr.ptr ?_ ?_ ?_); omega; omega; conv => whnf) | ((with_reducible apply XBr.mk') <;> (intro h; conv => whnf))
  refine Walk.loop tab_ok [] (fun i : Nat => i ≤ xs.length) (fun i => [(1, .sl n2 (rowsA xs)), (2, .fn 91 []), (15, .sl n1 (rowsA xs)), (16, natA xs.length), (17, natA i)]) (fun _ => []) (fun i => xs.length - i) 0 (Nat.zero_le _) rfl ⟨rfl, rfl, rfl, by simp only [List.length_map]; rfl, rfl, trivial⟩ ?_
  intro i hi
  have hri : i < xs.length → (xs.getD i default).length ≤ 1000 := fun h => hr _ (getD_mem h)
  conv => whnf
  repeat' first | ((with_reducible apply XBr.tt); conv => whnf) | ((with_reducible apply XBr.ff); conv => whnf) | (with_reducible apply XBr.not) | ((with_reducible apply XBr.dec) <;> (intro h; first | (exfalso; omega) | ((try simp only [List.length_map] at h); first | (exfalso; omega) | (conv => whnf)))) | ((with_reducible apply XBr.beq) <;> (intro h; first | (exfalso; omega) | (conv => whnf))) | ((with_reducible apply XBr.bne) <;> (intro h; first | (exfalso; omega) | (conv => whnf))) | ((with_reducible refine XInt.i64 (by omega) (by omega) ?_); conv => whnf) | ((with_reducible refine XHold.mk ?_ ?_); (first | omega | rfl | decide | exact ⟨rfl, by decide, rfl⟩ | exact wideI _ | exact widePr _ | exact wideSk _ | (unfold Room; constructor <;> ((try simp) <;> omega)) | exact ⟨rfl, by simp only [List.length_map], by unfold Room; constructor <;> ((try simp) <;> omega)⟩ | exact ⟨by omega, by omega, by unfold Room; constructor <;> ((try simp) <;> omega)⟩); conv => whnf) | ((with_reducible refine XIx.nat ?_ ?_ ?_); omega; (intro _; rfl); conv => whnf) | ((with_reducible refine XIx.map ?_ ?_ ?_ ?_); omega; omega; (intro _; rfl); conv => whnf) | (with_reducible apply XAnd.mk) | ((with_reducible apply Chk.go); conv => whnf) | ((with_reducible apply ChkA.go); conv => whnf) | ((with_reducible apply ChkF.go); conv => whnf) | ((with_reducible apply ChkB.go); conv => whnf) | (exact XSame.mk rfl rfl) | (exact XSame.mk (by first | rfl | (simp only [List.map_append, List.length_append, List.length_map]; done) | (simp only [List.map_append, List.length_append, List.length_map]; rfl)) (by first | rfl | (simp only [List.map_append]; done) | (simp only [List.map_append]; rfl))) | (with_reducible exact trivial) | ((with_reducible refine xdrop_app (by rw [List.length_map]; omega) ?_); conv => whnf) | ((with_reducible refine XDrop.desk (by assumption) ?_); conv => whnf) | ((with_reducible refine XArr.ints (by omega) (by omega) (by omega) ?_); conv => whnf) | ((with_reducible refine XArr.intsA (by omega) (by omega) (by omega) ?_); conv => whnf) | ((with_reducible refine XArr.nats ?_ ?_ ?_); omega; omega; conv => whnf) | ((with_reducible refine XArr.natsA ?_ ?_ ?_); omega; omega; conv => whnf) | ((with_reducible apply XArr.pim0); conv => whnf) | ((with_reducible apply XArr.pim1); conv => whnf) | ((with_reducible refine XArr.ptr ?_ ?_ ?_); omega; omega; conv => whnf) | ((refine XCall.ret (equalI _ _ (xs.getD i default) (by have := hri (by omega); omega)) ?_); conv => whnf) | ((with_reducible apply XBr.mk') <;> (intro h; conv => whnf))
  · exact XAgain.go (i + 1) (by omega) (by omega) rfl ⟨rfl, rfl, rfl, rfl, rfl, trivial⟩
  · exact XOut.bool rfl
theorem eqRows (n1 n2 : Bool) (xs : List (List Int)) (hx : xs.length ≤ 1000) (hr : ∀ r ∈ xs, r.length ≤ 1000) : Comp Try.prog 52 [.sl n1 (rowsA xs), .sl n2 (rowsA xs)] (.bool true) := by
  refine Comp.body (T := tab) (res := [.tmp 4]) tab_ok [] Try.func52 rfl (by kernel_rfl) Try.ntmps52 rfl (by simp only [List.length_cons, List.length_nil]; decide) (by simp only [lowL, AV.low, lowRw]; rfl) ?_; conv => whnf
  repeat' first | ((with_reducible apply XBr.tt); conv => whnf) | ((with_reducible apply XBr.ff); conv => whnf) | (with_reducible apply XBr.not) | ((with_reducible apply XBr.dec) <;> (intro h; first | (exfalso; omega) | ((try simp only [List.length_map] at h); first | (exfalso; omega) | (conv => whnf)))) | ((with_reducible apply XBr.beq) <;> (intro h; first | (exfalso; omega) | (conv => whnf))) | ((with_reducible apply XBr.bne) <;> (intro h; first | (exfalso; omega) | (conv => whnf))) | ((with_reducible refine XInt.i64 (by omega) (by omega) ?_); conv => whnf) | ((with_reducible refine XHold.mk ?_ ?_); (first | omega | rfl | decide | exact ⟨rfl, by decide, rfl⟩ | exact wideI _ | exact widePr _ | exact wideSk _ | (unfold Room; constructor <;> ((try simp) <;> omega)) | exact ⟨rfl, by simp only [List.length_map], by unfold Room; constructor <;> ((try simp) <;> omega)⟩ | exact ⟨by omega, by omega, by unfold Room; constructor <;> ((try simp) <;> omega)⟩); conv => whnf) | ((with_reducible refine XIx.nat ?_ ?_ ?_); omega; (intro _; rfl); conv => whnf) | ((with_reducible refine XIx.map ?_ ?_ ?_ ?_); omega; omega; (intro _; rfl); conv => whnf) | (with_reducible apply XAnd.mk) | ((with_reducible apply Chk.go); conv => whnf) | ((with_reducible apply ChkA.go); conv => whnf) | ((with_reducible apply ChkF.go); conv => whnf) | ((with_reducible apply ChkB.go); conv => whnf) | (exact XSame.mk rfl rfl) | (exact XSame.mk (by first | rfl | (simp only [List.map_append, List.length_append, List.length_map]; done) | (simp only [List.map_append, List.length_append, List.length_map]; rfl)) (by first | rfl | (simp only [List.map_append]; done) | (simp only [List.map_append]; rfl))) | (with_reducible exact trivial) | ((with_reducible refine xdrop_app (by rw [List.length_map]; omega) ?_); conv => whnf) | ((with_reducible refine XDrop.desk (by assumption) ?_); conv => whnf) | ((with_reducible refine XArr.ints (by omega) (by omega) (by omega) ?_); conv => whnf) | ((with_reducible refine XArr.intsA (by omega) (by omega) (by omega) ?_); conv => whnf) | ((with_reducible refine XArr.nats ?_ ?_ ?_); omega; omega; conv => whnf) | ((with_reducible refine XArr.natsA ?_ ?_ ?_); omega; omega; conv => whnf) | ((with_reducible apply XArr.pim0); conv => whnf) | ((with_reducible apply XArr.pim1); conv => whnf) | ((with_reducible refine XArr.ptr ?_ ?_ ?_); omega; omega; conv => whnf) | ((refine XCall.ret (equalRows n1 n2 xs hx hr) ?_); conv => whnf) | ((with_reducible apply XBr.mk') <;> (intro h; conv => whnf))
  exact XOut.bool rfl
/-- A load with other signs of what is nil. -/
def reL (l : Ld) (a b c : Bool) : Ld := ⟨l.bears, l.shrink, a, l.sacks, b, l.apart, c, l.wth⟩
theorem ownL_re (l : Ld) : ownL l = reL l false false false := rfl
theorem closeF_re (l : Ld) (a b c : Bool) : ∀ (n : Nat) (x : List Nat), closeF (reL l a b c) n x = closeF l n x
  | 0, _ => rfl
  | n + 1, x => by
    show (if joinR l x = x then x else closeF (reL l a b c) n (joinR l x)) = if joinR l x = x then x else closeF l n (joinR l x)
    rw [closeF_re l a b c n]
theorem nd_re (l : Ld) (a b c : Bool) : (openD (reL l a b c)).nd = (openD l).nd := closeF_re l a b c 5000 _
theorem ndS_re (l : Ld) (a b c : Bool) (i : Nat) : ndS (reL l a b c) i = ndS l i := by unfold ndS; rw [nd_re]
theorem right_re (l : Ld) (a b c : Bool) (s : Nat) : rightB (openD (reL l a b c)) s = rightB (openD l) s := by
  unfold rightB wholeB
  rw [nd_re]; rfl
theorem isF_re (l : Ld) (a b c : Bool) (i : Nat) : isF (reL l a b c) i = isF l i := by unfold isF; rw [ndS_re]
theorem bunK_re (l : Ld) (a b c : Bool) : ∀ k, bunK (reL l a b c) k = bunK l k
  | 0 => rfl
  | k + 1 => by unfold bunK; rw [isF_re, ndS_re, bunK_re l a b c k]
theorem stuK_re (l : Ld) (a b c : Bool) : ∀ k, stuK (reL l a b c) k = stuK l k
  | 0 => rfl
  | k + 1 => by unfold stuK; rw [isF_re, ndS_re, right_re, stuK_re l a b c k]
theorem reL_ok {l : Ld} (o : LdOk l) (a b c : Bool) : LdOk (reL l a b c) := ⟨o.n, o.na, o.nw, o.b1, o.b2, o.s1, o.s2, o.sk, o.ap, o.wp⟩
end GA
end

section
namespace GA
open Go Go.RowKit Go.Proofs
set_option pp.deepTerms true
set_option maxRecDepth 8000
set_option linter.unusedVariables false
set_option linter.unusedSimpArgs false

theorem stuckL {l : Ld} (o : LdW l) (h : checkR l = 0) : Comp Try.prog 47 [ldA (ownL l)] (.tup [slA (stuK l l.sacks.length), .int .i64 0]) := by
  have ow : LdW (ownL l) := ⟨nofun, o.h1, o.h2, o.h3⟩
  have e := stuck_c (ownL l) ow
  unfold stuckA at e
  rw [show checkR (ownL l) = checkR l from rfl, if_pos h, ownL_re, stuK_re] at e
  exact e
theorem bundlesL {l : Ld} (o : LdW l) (h : checkR l = 0) : Comp Try.prog 46 [ldA (ownL l)] (.tup [.sl (bunK l l.sacks.length).isEmpty (rowsA (bunK l l.sacks.length)), .int .i64 0]) := by
  have ow : LdW (ownL l) := ⟨nofun, o.h1, o.h2, o.h3⟩
  have e := bundles_c (ownL l) ow
  unfold bundlesA at e
  rw [show checkR (ownL l) = checkR l from rfl, if_pos h, ownL_re, bunK_re] at e
  exact e
theorem weightsL {l : Ld} (o : LdW l) (h : checkR l = 0) : Comp Try.prog 21 [ldA (ownL l)] (.tup [slA (l.sacks.map (weightR l)), .int .i64 0]) := by
  have ow : LdW (ownL l) := ⟨nofun, o.h1, o.h2, o.h3⟩
  have e := weights_c (ownL l) ow
  unfold weightsA at e
  rw [show checkR (ownL l) = checkR l from rfl, if_pos h] at e
  exact e
theorem stuckN {l : Ld} (o : LdW l) (h : checkR l ≠ 0) : Comp Try.prog 47 [ldA (ownL l)] (.tup [.sl true [], .int .i64 (checkR l)]) := by
  have ow : LdW (ownL l) := ⟨nofun, o.h1, o.h2, o.h3⟩
  have e := stuck_c (ownL l) ow
  unfold stuckA at e
  rwa [show checkR (ownL l) = checkR l from rfl, if_neg h] at e
theorem bundlesN {l : Ld} (o : LdW l) (h : checkR l ≠ 0) : Comp Try.prog 46 [ldA (ownL l)] (.tup [.sl true [], .int .i64 (checkR l)]) := by
  have ow : LdW (ownL l) := ⟨nofun, o.h1, o.h2, o.h3⟩
  have e := bundles_c (ownL l) ow
  unfold bundlesA at e
  rwa [show checkR (ownL l) = checkR l from rfl, if_neg h] at e
theorem weightsN {l : Ld} (o : LdW l) (h : checkR l ≠ 0) : Comp Try.prog 21 [ldA (ownL l)] (.tup [.sl true [], .int .i64 (checkR l)]) := by
  have ow : LdW (ownL l) := ⟨nofun, o.h1, o.h2, o.h3⟩
  have e := weights_c (ownL l) ow
  unfold weightsA at e
  rwa [show checkR (ownL l) = checkR l from rfl, if_neg h] at e
theorem bunK_rows (l : Ld) : ∀ k, ∀ r ∈ bunK l k, r.length ≤ 1000
  | 0, r, h => by simp [bunK] at h
  | k + 1, r, h => by
    unfold bunK at h
    split at h
    · rcases List.mem_append.1 h with h | h
      · exact bunK_rows l k r h
      · simp only [List.mem_singleton] at h; subst h; have := bits_len (ndS l k); omega
    · exact bunK_rows l k r h
set_option maxHeartbeats 2000000 in
theorem sackLoads_c (l : Ld) (hw : l.nla = true → l.apart = []) : Comp Try.prog 9 [ldA l] (.bool true) := by
  have hgr := great_c l
  refine Comp.body' (T := tab) (res := [.tmp 2]) tab_ok [3, 4] Try.func9 rfl (by kernel_rfl) Try.ntmps9 rfl (by simp only [List.length_cons, List.length_nil]; decide) (by simp only [lowL, AV.low, ldL]; rfl) ?_; conv => whnf
  by_cases hg : greatB l = true
  · rw [hg] at hgr
    repeat' first | ((with_reducible apply XBr.tt); conv => whnf) | ((with_reducible apply XBr.ff); conv => whnf) | (with_reducible apply XBr.not) | ((with_reducible apply XBr.dec) <;> (intro h; first | (exfalso; omega) | ((try simp only [List.length_map] at h); first | (exfalso; omega) | (conv => whnf)))) | ((with_reducible apply XBr.beq) <;> (intro h; first | (exfalso; omega) | (conv => whnf))) | ((with_reducible apply XBr.bne) <;> (intro h; first | (exfalso; omega) | (conv => whnf))) | ((with_reducible refine XInt.i64 (by omega) (by omega) ?_); conv => whnf) | ((with_reducible refine XHold.mk ?_ ?_); (first | omega | rfl | decide | exact ⟨rfl, by decide, rfl⟩ | exact wideI _ | exact widePr _ | exact wideSk _ | (unfold Room; constructor <;> ((try simp) <;> omega)) | exact ⟨rfl, by simp only [List.length_map], by unfold Room; constructor <;> ((try simp) <;> omega)⟩ | exact ⟨by omega, by omega, by unfold Room; constructor <;> ((try simp) <;> omega)⟩); conv => whnf) | ((with_reducible refine XIx.nat ?_ ?_ ?_); omega; (intro _; rfl); conv => whnf) | ((with_reducible refine XIx.map ?_ ?_ ?_ ?_); omega; omega; (intro _; rfl); conv => whnf) | (with_reducible apply XAnd.mk) | ((with_reducible apply Chk.go); conv => whnf) | ((with_reducible apply ChkA.go); conv => whnf) | ((with_reducible apply ChkF.go); conv => whnf) | ((with_reducible apply ChkB.go); conv => whnf) | (exact XSame.mk rfl rfl) | (exact XSame.mk (by first | rfl | (simp only [List.map_append, List.length_append, List.length_map]; done) | (simp only [List.map_append, List.length_append, List.length_map]; rfl)) (by first | rfl | (simp only [List.map_append]; done) | (simp only [List.map_append]; rfl))) | (with_reducible exact trivial) | ((with_reducible refine xdrop_app (by rw [List.length_map]; omega) ?_); conv => whnf) | ((with_reducible refine XDrop.desk (by assumption) ?_); conv => whnf) | ((with_reducible refine XArr.ints (by omega) (by omega) (by omega) ?_); conv => whnf) | ((with_reducible refine XArr.intsA (by omega) (by omega) (by omega) ?_); conv => whnf) | ((with_reducible refine XArr.nats ?_ ?_ ?_); omega; omega; conv => whnf) | ((with_reducible refine XArr.natsA ?_ ?_ ?_); omega; omega; conv => whnf) | ((with_reducible apply XArr.pim0); conv => whnf) | ((with_reducible apply XArr.pim1); conv => whnf) | ((with_reducible refine XArr.ptr ?_ ?_ ?_); omega; omega; conv => whnf) | ((refine XCall.ret hgr ?_); conv => whnf) | ((refine XCall.ret awake_c ?_); conv => whnf) | ((with_reducible apply XBr.mk') <;> (intro h; conv => whnf))
    exact XOut.bool rfl
  · rw [Bool.not_eq_true] at hg
    rw [hg] at hgr
    have hgl : l.sacks.length ≤ 14 ∧ l.apart.length ≤ 12 ∧ l.wth.length ≤ 12 := by
      unfold greatB at hg
      simp only [Bool.or_eq_false_iff, decide_eq_false_iff_not] at hg
      omega
    have lw : LdW l := ⟨hw, by omega, by omega, by omega⟩
    have how := own_c l lw
    have hth := theirs_c l lw
    have hsm := same_c l lw
    have ow : LdW (ownL l) := ⟨nofun, lw.h1, lw.h2, lw.h3⟩
    have tw : LdW (thL l) := ⟨hw, lw.h1, lw.h2, lw.h3⟩
    have hck : Comp Try.prog 51 [ldA (ownL l)] (.int .i64 (checkR l)) := check_c (ownL l) ow.w ow.h1 ow.h2 ow.h3
    have hrc : Comp Try.prog 40 [ldA (thL l)] (.int .i64 (checkR l)) := refCheck_c (thL l) tw
    have e1 : ((l.sacks.map skA).length : Int) = l.sacks.length := by rw [List.length_map]
    repeat' first | ((with_reducible apply XBr.tt); conv => whnf) | ((with_reducible apply XBr.ff); conv => whnf) | (with_reducible apply XBr.not) | ((with_reducible apply XBr.dec) <;> (intro h; first | (exfalso; omega) | ((try simp only [List.length_map] at h); first | (exfalso; omega) | (conv => whnf)))) | ((with_reducible apply XBr.beq) <;> (intro h; first | (exfalso; omega) | (conv => whnf))) | ((with_reducible apply XBr.bne) <;> (intro h; first | (exfalso; omega) | (conv => whnf))) | ((with_reducible refine XInt.i64 (by omega) (by omega) ?_); conv => whnf) | ((with_reducible refine XHold.mk ?_ ?_); (first | omega | rfl | decide | exact ⟨rfl, by decide, rfl⟩ | exact wideI _ | exact widePr _ | exact wideSk _ | (unfold Room; constructor <;> ((try simp) <;> omega)) | exact ⟨rfl, by simp only [List.length_map], by unfold Room; constructor <;> ((try simp) <;> omega)⟩ | exact ⟨by omega, by omega, by unfold Room; constructor <;> ((try simp) <;> omega)⟩); conv => whnf) | ((with_reducible refine XIx.nat ?_ ?_ ?_); omega; (intro _; rfl); conv => whnf) | ((with_reducible refine XIx.map ?_ ?_ ?_ ?_); omega; omega; (intro _; rfl); conv => whnf) | (with_reducible apply XAnd.mk) | ((with_reducible apply Chk.go); conv => whnf) | ((with_reducible apply ChkA.go); conv => whnf) | ((with_reducible apply ChkF.go); conv => whnf) | ((with_reducible apply ChkB.go); conv => whnf) | (exact XSame.mk rfl rfl) | (exact XSame.mk (by first | rfl | (simp only [List.map_append, List.length_append, List.length_map]; done) | (simp only [List.map_append, List.length_append, List.length_map]; rfl)) (by first | rfl | (simp only [List.map_append]; done) | (simp only [List.map_append]; rfl))) | (with_reducible exact trivial) | ((with_reducible refine xdrop_app (by rw [List.length_map]; omega) ?_); conv => whnf) | ((with_reducible refine XDrop.desk (by assumption) ?_); conv => whnf) | ((with_reducible refine XArr.ints (by omega) (by omega) (by omega) ?_); conv => whnf) | ((with_reducible refine XArr.intsA (by omega) (by omega) (by omega) ?_); conv => whnf) | ((with_reducible refine XArr.nats ?_ ?_ ?_); omega; omega; conv => whnf) | ((with_reducible refine XArr.natsA ?_ ?_ ?_); omega; omega; conv => whnf) | ((with_reducible apply XArr.pim0); conv => whnf) | ((with_reducible apply XArr.pim1); conv => whnf) | ((with_reducible refine XArr.ptr ?_ ?_ ?_); omega; omega; conv => whnf) | ((refine XCall.ret hgr ?_); conv => whnf) | ((with_reducible apply XBr.mk') <;> (intro h; conv => whnf))
    refine Walk.place (Walk.place ?_)
    apply Walk.drawX tab_ok mixed_ok [] [4, 5, 6, 7] (fun fl => match fl with
      | [a, b, x, y] => [(bif a then .cells (bif x then ldC (ownL l) else [.int .i64 0, .int .i64 0, .sl true [], .sl true [], .sl true []]) else .free),
          (bif b then .cells (bif y then ldC (thL l) else [.int .i64 0, .int .i64 0, .sl true [], .sl true [], .sl true []]) else .free)]
      | _ => []) [_, _, _, _, .ptr 0 0, .ptr 1 0, _, _] (by kernel_rfl) rfl
    · skip
      repeat' first | ((with_reducible apply XBr.tt); conv => whnf) | ((with_reducible apply XBr.ff); conv => whnf) | (with_reducible apply XBr.not) | ((with_reducible apply XBr.dec) <;> (intro h; first | (exfalso; omega) | ((try simp only [List.length_map] at h); first | (exfalso; omega) | (conv => whnf)))) | ((with_reducible apply XBr.beq) <;> (intro h; first | (exfalso; omega) | (conv => whnf))) | ((with_reducible apply XBr.bne) <;> (intro h; first | (exfalso; omega) | (conv => whnf))) | ((with_reducible refine XInt.i64 (by omega) (by omega) ?_); conv => whnf) | ((with_reducible refine XHold.mk ?_ ?_); (first | omega | rfl | decide | exact ⟨rfl, by decide, rfl⟩ | exact wideI _ | exact widePr _ | exact wideSk _ | (unfold Room; constructor <;> ((try simp) <;> omega)) | exact ⟨rfl, by simp only [List.length_map], by unfold Room; constructor <;> ((try simp) <;> omega)⟩ | exact ⟨by omega, by omega, by unfold Room; constructor <;> ((try simp) <;> omega)⟩); conv => whnf) | ((with_reducible refine XIx.nat ?_ ?_ ?_); omega; (intro _; rfl); conv => whnf) | ((with_reducible refine XIx.map ?_ ?_ ?_ ?_); omega; omega; (intro _; rfl); conv => whnf) | (with_reducible apply XAnd.mk) | ((with_reducible apply Chk.go); conv => whnf) | ((with_reducible apply ChkA.go); conv => whnf) | ((with_reducible apply ChkF.go); conv => whnf) | ((with_reducible apply ChkB.go); conv => whnf) | (exact XSame.mk rfl rfl) | (exact XSame.mk (by first | rfl | (simp only [List.map_append, List.length_append, List.length_map]; done) | (simp only [List.map_append, List.length_append, List.length_map]; rfl)) (by first | rfl | (simp only [List.map_append]; done) | (simp only [List.map_append]; rfl))) | (with_reducible exact trivial) | ((with_reducible refine xdrop_app (by rw [List.length_map]; omega) ?_); conv => whnf) | ((with_reducible refine XDrop.desk (by assumption) ?_); conv => whnf) | ((with_reducible refine XArr.ints (by omega) (by omega) (by omega) ?_); conv => whnf) | ((with_reducible refine XArr.intsA (by omega) (by omega) (by omega) ?_); conv => whnf) | ((with_reducible refine XArr.nats ?_ ?_ ?_); omega; omega; conv => whnf) | ((with_reducible refine XArr.natsA ?_ ?_ ?_); omega; omega; conv => whnf) | ((with_reducible apply XArr.pim0); conv => whnf) | ((with_reducible apply XArr.pim1); conv => whnf) | ((with_reducible refine XArr.ptr ?_ ?_ ?_); omega; omega; conv => whnf) | ((refine XCall.ret how ?_); conv => whnf) | ((refine XCall.ret hth ?_); conv => whnf) | (first | ((refine XFree.at 0 rfl ?_); (conv => whnf); exact XSame.mk rfl rfl) | ((refine XFree.at 1 rfl ?_); (conv => whnf); exact XSame.mk rfl rfl)) | ((with_reducible apply XBr.mk') <;> (intro h; conv => whnf))
    · skip
      repeat' first | ((with_reducible apply XBr.tt); conv => whnf) | ((with_reducible apply XBr.ff); conv => whnf) | (with_reducible apply XBr.not) | ((with_reducible apply XBr.dec) <;> (intro h; first | (exfalso; omega) | ((try simp only [List.length_map] at h); first | (exfalso; omega) | (conv => whnf)))) | ((with_reducible apply XBr.beq) <;> (intro h; first | (exfalso; omega) | (conv => whnf))) | ((with_reducible apply XBr.bne) <;> (intro h; first | (exfalso; omega) | (conv => whnf))) | ((with_reducible refine XInt.i64 (by omega) (by omega) ?_); conv => whnf) | ((with_reducible refine XHold.mk ?_ ?_); (first | omega | rfl | decide | exact ⟨rfl, by decide, rfl⟩ | exact wideI _ | exact widePr _ | exact wideSk _ | (unfold Room; constructor <;> ((try simp) <;> omega)) | exact ⟨rfl, by simp only [List.length_map], by unfold Room; constructor <;> ((try simp) <;> omega)⟩ | exact ⟨by omega, by omega, by unfold Room; constructor <;> ((try simp) <;> omega)⟩); conv => whnf) | ((with_reducible refine XIx.nat ?_ ?_ ?_); omega; (intro _; rfl); conv => whnf) | ((with_reducible refine XIx.map ?_ ?_ ?_ ?_); omega; omega; (intro _; rfl); conv => whnf) | (with_reducible apply XAnd.mk) | ((with_reducible apply Chk.go); conv => whnf) | ((with_reducible apply ChkA.go); conv => whnf) | ((with_reducible apply ChkF.go); conv => whnf) | ((with_reducible apply ChkB.go); conv => whnf) | (exact XSame.mk rfl rfl) | (exact XSame.mk (by first | rfl | (simp only [List.map_append, List.length_append, List.length_map]; done) | (simp only [List.map_append, List.length_append, List.length_map]; rfl)) (by first | rfl | (simp only [List.map_append]; done) | (simp only [List.map_append]; rfl))) | (with_reducible exact trivial) | ((with_reducible refine xdrop_app (by rw [List.length_map]; omega) ?_); conv => whnf) | ((with_reducible refine XDrop.desk (by assumption) ?_); conv => whnf) | ((with_reducible refine XArr.ints (by omega) (by omega) (by omega) ?_); conv => whnf) | ((with_reducible refine XArr.intsA (by omega) (by omega) (by omega) ?_); conv => whnf) | ((with_reducible refine XArr.nats ?_ ?_ ?_); omega; omega; conv => whnf) | ((with_reducible refine XArr.natsA ?_ ?_ ?_); omega; omega; conv => whnf) | ((with_reducible apply XArr.pim0); conv => whnf) | ((with_reducible apply XArr.pim1); conv => whnf) | ((with_reducible refine XArr.ptr ?_ ?_ ?_); omega; omega; conv => whnf) | ((refine XCall.ret how ?_); conv => whnf) | ((refine XCall.ret hth ?_); conv => whnf) | (first | ((refine XFree.at 0 rfl ?_); (conv => whnf); exact XSame.mk rfl rfl) | ((refine XFree.at 1 rfl ?_); (conv => whnf); exact XSame.mk rfl rfl)) | ((with_reducible apply XBr.mk') <;> (intro h; conv => whnf))
    conv => whnf
    by_cases h0 : checkR l = 0
    · have ok := (checkR_ok l).1 h0
      have tk : LdOk (thL l) := reL_ok ok l.sacks.isEmpty l.nla l.nlw
      have hn := ok.n
      have hp9 := pow9 hn
      have hW := weightsL lw h0
      have hB := bundlesL lw h0
      have hS := stuckL lw h0
      rw [h0] at hck hrc
      have hwt : ∀ k, k < l.sacks.length → Comp Try.prog 48 [ldA (thL l), natA k] (.int .i64 (weightR l (l.sacks.getD k default))) := fun k hk => refWeight_c (thL l) tk k hk
      have hbu : ∀ k, k < l.sacks.length → Comp Try.prog 49 [ldA (thL l), natA k] (.sl false (bools (boolN l.sacks.length (ndS l k)))) := fun k hk => by
        have e := refBundle_c (thL l) tk k hk
        rw [show ndS (thL l) k = ndS l k from ndS_re l _ _ _ k] at e; exact e
      have hli : ∀ k, Comp Try.prog 50 [.sl false (bools (boolN l.sacks.length (ndS l k)))] (slA (bits (ndS l k))) := fun k => by
        have e := refList_c false (boolN l.sacks.length (ndS l k)) (by rw [boolN_len]; omega)
        rwa [bits_ls hn (ndS_lt ok k)] at e
      have hri : ∀ k, Comp Try.prog 42 [ldA (thL l), .sl false (bools (boolN l.sacks.length (ndS l k)))] (.bool (rightB (openD l) (ndS l k))) := fun k => by
        have e := refRight_c (thL l) tk false (boolN l.sacks.length (ndS l k)) (boolN_len _ _)
        rw [show rightB (openD (thL l)) (setN (boolN l.sacks.length (ndS l k))) = rightB (openD l) (setN (boolN l.sacks.length (ndS l k))) from right_re l _ _ _ _, setN_boolN (ndS_lt ok k)] at e; exact e
      have hbt : ∀ k, k < l.sacks.length → 0 < (bits (ndS l k)).length ∧ (bits (ndS l k)).length ≤ 62 ∧ ((bits (ndS l k)).getD 0 0 = (k : Int) ↔ isF l k = true) := fun k hk => by
        have hb := nd_self ok hk
        have h1 := ndS_lt ok k
        have hne : ndS l k ≠ 0 := ne_zero_bit hb
        have h5 : ndS l k < 512 := by omega
        have hf := first_iff (i := k) hne h5
        refine ⟨?_, bits_len _, ?_⟩
        · exact List.length_pos_iff.2 (first_all ⟨ndS l k, h5⟩ hne).2.2
        · unfold isF; rw [beq_iff_eq]; exact hf
      have hst : ∀ k, stuK l (k + 1) = if (isF l k && !rightB (openD l) (ndS l k)) = true then stuK l k ++ [(k : Int)] else stuK l k := fun _ => rfl
      have hbn : ∀ k, bunK l (k + 1) = if isF l k = true then bunK l k ++ [bits (ndS l k)] else bunK l k := fun _ => rfl
      have hstl := stuK_len l
      have hbnl := bunK_len l
      have hbr := bunK_rows l
      generalize openD l = d at hri hst
      repeat' first | ((with_reducible apply XBr.tt); conv => whnf) | ((with_reducible apply XBr.ff); conv => whnf) | (with_reducible apply XBr.not) | ((with_reducible apply XBr.dec) <;> (intro h; first | (exfalso; omega) | ((try simp only [List.length_map] at h); first | (exfalso; omega) | (conv => whnf)))) | ((with_reducible apply XBr.beq) <;> (intro h; first | (exfalso; omega) | (conv => whnf))) | ((with_reducible apply XBr.bne) <;> (intro h; first | (exfalso; omega) | (conv => whnf))) | ((with_reducible refine XInt.i64 (by omega) (by omega) ?_); conv => whnf) | ((with_reducible refine XHold.mk ?_ ?_); (first | omega | rfl | decide | exact ⟨rfl, by decide, rfl⟩ | exact wideI _ | exact widePr _ | exact wideSk _ | (unfold Room; constructor <;> ((try simp) <;> omega)) | exact ⟨rfl, by simp only [List.length_map], by unfold Room; constructor <;> ((try simp) <;> omega)⟩ | exact ⟨by omega, by omega, by unfold Room; constructor <;> ((try simp) <;> omega)⟩); conv => whnf) | ((with_reducible refine XIx.nat ?_ ?_ ?_); omega; (intro _; rfl); conv => whnf) | ((with_reducible refine XIx.map ?_ ?_ ?_ ?_); omega; omega; (intro _; rfl); conv => whnf) | (with_reducible apply XAnd.mk) | ((with_reducible apply Chk.go); conv => whnf) | ((with_reducible apply ChkA.go); conv => whnf) | ((with_reducible apply ChkF.go); conv => whnf) | ((with_reducible apply ChkB.go); conv => whnf) | (exact XSame.mk rfl rfl) | (exact XSame.mk (by first | rfl | (simp only [List.map_append, List.length_append, List.length_map]; done) | (simp only [List.map_append, List.length_append, List.length_map]; rfl)) (by first | rfl | (simp only [List.map_append]; done) | (simp only [List.map_append]; rfl))) | (with_reducible exact trivial) | ((with_reducible refine xdrop_app (by rw [List.length_map]; omega) ?_); conv => whnf) | ((with_reducible refine XDrop.desk (by assumption) ?_); conv => whnf) | ((with_reducible refine XArr.ints (by omega) (by omega) (by omega) ?_); conv => whnf) | ((with_reducible refine XArr.intsA (by omega) (by omega) (by omega) ?_); conv => whnf) | ((with_reducible refine XArr.nats ?_ ?_ ?_); omega; omega; conv => whnf) | ((with_reducible refine XArr.natsA ?_ ?_ ?_); omega; omega; conv => whnf) | ((with_reducible apply XArr.pim0); conv => whnf) | ((with_reducible apply XArr.pim1); conv => whnf) | ((with_reducible refine XArr.ptr ?_ ?_ ?_); omega; omega; conv => whnf) | ((refine XCall.ret hrc ?_); conv => whnf) | ((refine XCall.ret hW ?_); conv => whnf) | ((refine XCall.ret hB ?_); conv => whnf) | ((refine XCall.ret hS ?_); conv => whnf) | ((with_reducible apply XBr.mk') <;> (intro h; conv => whnf))
      refine Walk.nilgr 12 3 rfl (Walk.nilgr 13 3 rfl (Walk.nilgr 14 30 rfl ?_))
      refine Walk.loop tab_ok [] (fun k : Nat => k ≤ l.sacks.length) (fun k => [(1, .pim (ldC l)), (3, .ptr 0 0), (4, .ptr 1 0), (5, .int .i64 0), (6, slA (l.sacks.map (weightR l))), (7, .int .i64 0), (8, .sl (bunK l l.sacks.length).isEmpty (rowsA (bunK l l.sacks.length))), (9, .int .i64 0), (10, slA (stuK l l.sacks.length)), (11, .int .i64 0), (44, natA l.sacks.length), (45, natA k), (12, .gr 2 (wsK l k).length), (13, .gr 3 (stuK l k).length), (14, .gr 4 (bunK l k).length)])
        (fun k => [.cells (ldC (ownL l)), .cells (ldC (thL l)), .grow 3 (wsK l k).isEmpty (ints (wsK l k)), .grow 3 (stuK l k).isEmpty (ints (stuK l k)), .grow 30 (bunK l k).isEmpty (rowsA (bunK l k))]) (fun k => l.sacks.length - k) 0 (Nat.zero_le _) rfl ⟨rfl, rfl, rfl, rfl, rfl, rfl, rfl, rfl, rfl, rfl, congrArg (fun n => some (AV.int .i64 n)) e1, rfl, rfl, rfl, rfl, trivial⟩ ?_
      intro k hk
      have qw := wsK_len l hk
      have qn := fun h => wsK_next l (k := k) h
      have qs := hst k
      have qb := hbn k
      have ls := hstl k
      have lb := hbnl k
      have hwk := hwt k
      have hbk := hbu k
      have hlk := hli k
      have hrk := hri k
      have htk := hbt k
      have aw := fun h => wsK_all l (k := k) h
      have aS : k = l.sacks.length → stuK l k = stuK l l.sacks.length := fun h => by rw [h]
      have ab : k = l.sacks.length → bunK l k = bunK l l.sacks.length := fun h => by rw [h]
      clear hst hbn hstl hbnl hwt hbu hli hri hbt
      generalize rightB d (ndS l k) = r at qs hrk
      generalize boolN l.sacks.length (ndS l k) = bs at hbk hlk hrk
      generalize bits (ndS l k) = bt at hlk qb htk
      generalize wsK l k = wk at qw qn aw
      generalize stuK l k = sk at qs ls aS
      generalize bunK l k = bk at qb lb ab
      conv => whnf
      repeat' first | ((with_reducible apply XBr.tt); conv => whnf) | ((with_reducible apply XBr.ff); conv => whnf) | (with_reducible apply XBr.not) | ((with_reducible apply XBr.dec) <;> (intro h; first | (exfalso; omega) | ((try simp only [List.length_map] at h); first | (exfalso; omega) | (conv => whnf)))) | ((with_reducible apply XBr.beq) <;> (intro h; first | (exfalso; omega) | (conv => whnf))) | ((with_reducible apply XBr.bne) <;> (intro h; first | (exfalso; omega) | (conv => whnf))) | ((with_reducible refine XInt.i64 (by omega) (by omega) ?_); conv => whnf) | ((with_reducible refine XHold.mk ?_ ?_); (first | omega | rfl | decide | exact ⟨rfl, by decide, rfl⟩ | exact wideI _ | exact widePr _ | exact wideSk _ | (unfold Room; constructor <;> ((try simp) <;> omega)) | exact ⟨rfl, by simp only [List.length_map], by unfold Room; constructor <;> ((try simp) <;> omega)⟩ | exact ⟨by omega, by omega, by unfold Room; constructor <;> ((try simp) <;> omega)⟩); conv => whnf) | ((with_reducible refine XIx.nat ?_ ?_ ?_); omega; (intro _; rfl); conv => whnf) | ((with_reducible refine XIx.map ?_ ?_ ?_ ?_); omega; omega; (intro _; rfl); conv => whnf) | (with_reducible apply XAnd.mk) | ((with_reducible apply Chk.go); conv => whnf) | ((with_reducible apply ChkA.go); conv => whnf) | ((with_reducible apply ChkF.go); conv => whnf) | ((with_reducible apply ChkB.go); conv => whnf) | (exact XSame.mk rfl rfl) | (exact XSame.mk (by first | rfl | (simp only [List.map_append, List.length_append, List.length_map]; done) | (simp only [List.map_append, List.length_append, List.length_map]; rfl)) (by first | rfl | (simp only [List.map_append]; done) | (simp only [List.map_append]; rfl))) | (with_reducible exact trivial) | ((with_reducible refine xdrop_app (by rw [List.length_map]; omega) ?_); conv => whnf) | ((with_reducible refine XDrop.desk (by assumption) ?_); conv => whnf) | ((with_reducible refine XArr.ints (by omega) (by omega) (by omega) ?_); conv => whnf) | ((with_reducible refine XArr.intsA (by omega) (by omega) (by omega) ?_); conv => whnf) | ((with_reducible refine XArr.nats ?_ ?_ ?_); omega; omega; conv => whnf) | ((with_reducible refine XArr.natsA ?_ ?_ ?_); omega; omega; conv => whnf) | ((with_reducible apply XArr.pim0); conv => whnf) | ((with_reducible apply XArr.pim1); conv => whnf) | ((with_reducible refine XArr.ptr ?_ ?_ ?_); omega; omega; conv => whnf) | ((refine XCall.ret (hwk (by omega)) ?_); conv => whnf) | ((refine XCall.ret (hbk (by omega)) ?_); conv => whnf) | ((refine XCall.ret hlk ?_); conv => whnf) | ((refine XCall.ret hrk ?_); conv => whnf) | ((refine XHold.mk ⟨rfl, by rw [List.length_map], by unfold Room; constructor <;> ((try simp) <;> omega)⟩ ?_); conv => whnf) | ((refine XHold.mk (wideRw [_]) ?_); conv => whnf) | ((refine XIx.map (xs := bt) (by omega) (by have := htk (by omega); omega) (fun _ => rfl) ?_); conv => whnf) | ((with_reducible apply XBr.mk') <;> (intro h; conv => whnf))
      · have hT : isF l k = true := (htk (by omega)).2.2.1 (by assumption)
        simp only [hT, h, Bool.true_and, Bool.not_true, Bool.not_false, Bool.false_eq_true, if_true, if_false] at qs qb
        refine XAgain.go (k + 1) (by omega) (by omega) ?_ ⟨rfl, rfl, rfl, rfl, rfl, rfl, rfl, rfl, rfl, rfl, rfl, rfl, ?_, ?_, ?_, trivial⟩
        · rw [qn (by omega), qs, qb]; simp only [List.map_append, isEmpty_app]; rfl
        · rw [qn (by omega)]; simp only [List.length_append]; rfl
        · rw [qs]; first | rfl | (simp only [List.length_append]; rfl)
        · rw [qb]; first | rfl | (simp only [List.length_append]; rfl)
      · have hT : isF l k = true := (htk (by omega)).2.2.1 (by assumption)
        simp only [hT, h, Bool.true_and, Bool.not_true, Bool.not_false, Bool.false_eq_true, if_true, if_false] at qs qb
        refine XAgain.go (k + 1) (by omega) (by omega) ?_ ⟨rfl, rfl, rfl, rfl, rfl, rfl, rfl, rfl, rfl, rfl, rfl, rfl, ?_, ?_, ?_, trivial⟩
        · rw [qn (by omega), qs, qb]; simp only [List.map_append, isEmpty_app]; rfl
        · rw [qn (by omega)]; simp only [List.length_append]; rfl
        · rw [qs]; first | rfl | (simp only [List.length_append]; rfl)
        · rw [qb]; first | rfl | (simp only [List.length_append]; rfl)
      · have hT : isF l k = false := by
          cases hf : isF l k
          · rfl
          · exact absurd ((htk (by omega)).2.2.2 hf) h
        simp only [hT, Bool.false_and, Bool.false_eq_true, if_false] at qs qb
        refine XAgain.go (k + 1) (by omega) (by omega) ?_ ⟨rfl, rfl, rfl, rfl, rfl, rfl, rfl, rfl, rfl, rfl, rfl, rfl, ?_, ?_, ?_, trivial⟩
        · rw [qn (by omega), qs, qb]; simp only [List.map_append, isEmpty_app]; rfl
        · rw [qn (by omega)]; simp only [List.length_append]; rfl
        · rw [qs]; rfl
        · rw [qb]; rfl
      have z1 := aw (by omega)
      have z2 := aS (by omega)
      have z3 := ab (by omega)
      subst z1
      rw [z2, z3]
      clear z2 z3 aw aS ab qn qs qb
      clear ls lb
      have ls := stuK_len l l.sacks.length
      have lb := bunK_len l l.sacks.length
      have hbr' := bunK_rows l l.sacks.length
      generalize stuK l l.sacks.length = sk at ls
      generalize bunK l l.sacks.length = bk at lb hbr'
      refine Walk.norm tab_ok [] [(1, .pim (ldC l)), (3, .ptr 0 0), (5, .int .i64 0), (6, slA (l.sacks.map (weightR l))), (7, .int .i64 0), (8, .sl bk.isEmpty (rowsA bk)), (9, .int .i64 0), (10, slA sk), (11, .int .i64 0), (12, .gr 2 (l.sacks.map (weightR l)).length), (13, .gr 3 sk.length), (14, .gr 4 bk.length)] ⟨rfl, rfl, rfl, rfl, rfl, rfl, rfl, rfl, rfl, rfl, rfl, rfl, trivial⟩ ?_
      conv => whnf
      trace_state
      repeat' first | ((with_reducible apply XBr.tt); conv => whnf) | ((with_reducible apply XBr.ff); conv => whnf) | (with_reducible apply XBr.not) | ((with_reducible apply XBr.dec) <;> (intro h; first | (exfalso; omega) | ((try simp only [List.length_map] at h); first | (exfalso; omega) | (conv => whnf)))) | ((with_reducible apply XBr.beq) <;> (intro h; first | (exfalso; omega) | (conv => whnf))) | ((with_reducible apply XBr.bne) <;> (intro h; first | (exfalso; omega) | (conv => whnf))) | ((with_reducible refine XInt.i64 (by omega) (by omega) ?_); conv => whnf) | ((with_reducible refine XHold.mk ?_ ?_); (first | omega | rfl | decide | exact ⟨rfl, by decide, rfl⟩ | exact wideI _ | exact widePr _ | exact wideSk _ | (unfold Room; constructor <;> ((try simp) <;> omega)) | exact ⟨rfl, by simp only [List.length_map], by unfold Room; constructor <;> ((try simp) <;> omega)⟩ | exact ⟨by omega, by omega, by unfold Room; constructor <;> ((try simp) <;> omega)⟩); conv => whnf) | ((with_reducible refine XIx.nat ?_ ?_ ?_); omega; (intro _; rfl); conv => whnf) | ((with_reducible refine XIx.map ?_ ?_ ?_ ?_); omega; omega; (intro _; rfl); conv => whnf) | (with_reducible apply XAnd.mk) | ((with_reducible apply Chk.go); conv => whnf) | ((with_reducible apply ChkA.go); conv => whnf) | ((with_reducible apply ChkF.go); conv => whnf) | ((with_reducible apply ChkB.go); conv => whnf) | (exact XSame.mk rfl rfl) | (exact XSame.mk (by first | rfl | (simp only [List.map_append, List.length_append, List.length_map]; done) | (simp only [List.map_append, List.length_append, List.length_map]; rfl)) (by first | rfl | (simp only [List.map_append]; done) | (simp only [List.map_append]; rfl))) | (with_reducible exact trivial) | ((with_reducible refine xdrop_app (by rw [List.length_map]; omega) ?_); conv => whnf) | ((with_reducible refine XDrop.desk (by assumption) ?_); conv => whnf) | ((with_reducible refine XArr.ints (by omega) (by omega) (by omega) ?_); conv => whnf) | ((with_reducible refine XArr.intsA (by omega) (by omega) (by omega) ?_); conv => whnf) | ((with_reducible refine XArr.nats ?_ ?_ ?_); omega; omega; conv => whnf) | ((with_reducible refine XArr.natsA ?_ ?_ ?_); omega; omega; conv => whnf) | ((with_reducible apply XArr.pim0); conv => whnf) | ((with_reducible apply XArr.pim1); conv => whnf) | ((with_reducible refine XArr.ptr ?_ ?_ ?_); omega; omega; conv => whnf) | ((refine XCall.ret hck ?_); conv => whnf) | ((refine XCall.lend (eqI _ _ (l.sacks.map (weightR l)) (by rw [List.length_map]; omega)) (.cons (Froz.low (lowI _)) (.cons (Froz.grow (i := 2) rfl (by rw [List.length_map]) (lowI _)) .nil)) rfl ?_); conv => whnf) | ((refine XCall.lend (eqRows _ _ bk (by omega) hbr') (.cons (Froz.low (lowRw _)) (.cons (Froz.grow (i := 4) rfl (by rw [List.length_map]) (lowRw _)) .nil)) rfl ?_); conv => whnf) | ((refine XCall.lend (eqI _ _ sk (by omega)) (.cons (Froz.low (lowI _)) (.cons (Froz.grow (i := 3) rfl (by rw [List.length_map]) (lowI _)) .nil)) rfl ?_); conv => whnf) | ((refine XCall.ret hsm ?_); conv => whnf) | ((refine XCall.ret awake_c ?_); conv => whnf) | ((with_reducible apply XBr.mk') <;> (intro h; conv => whnf))
      all_goals first | exact XOut.bool rfl | (exfalso; exact absurd rfl (by assumption))
    · have hW := weightsN lw h0
      have hB := bundlesN lw h0
      have hS := stuckN lw h0
      generalize checkR l = e at h0 hck hrc hW hB hS
      repeat' first | ((with_reducible apply XBr.tt); conv => whnf) | ((with_reducible apply XBr.ff); conv => whnf) | (with_reducible apply XBr.not) | ((with_reducible apply XBr.dec) <;> (intro h; first | (exfalso; omega) | ((try simp only [List.length_map] at h); first | (exfalso; omega) | (conv => whnf)))) | ((with_reducible apply XBr.beq) <;> (intro h; first | (exfalso; omega) | (conv => whnf))) | ((with_reducible apply XBr.bne) <;> (intro h; first | (exfalso; omega) | (conv => whnf))) | ((with_reducible refine XInt.i64 (by omega) (by omega) ?_); conv => whnf) | ((with_reducible refine XHold.mk ?_ ?_); (first | omega | rfl | decide | exact ⟨rfl, by decide, rfl⟩ | exact wideI _ | exact widePr _ | exact wideSk _ | (unfold Room; constructor <;> ((try simp) <;> omega)) | exact ⟨rfl, by simp only [List.length_map], by unfold Room; constructor <;> ((try simp) <;> omega)⟩ | exact ⟨by omega, by omega, by unfold Room; constructor <;> ((try simp) <;> omega)⟩); conv => whnf) | ((with_reducible refine XIx.nat ?_ ?_ ?_); omega; (intro _; rfl); conv => whnf) | ((with_reducible refine XIx.map ?_ ?_ ?_ ?_); omega; omega; (intro _; rfl); conv => whnf) | (with_reducible apply XAnd.mk) | ((with_reducible apply Chk.go); conv => whnf) | ((with_reducible apply ChkA.go); conv => whnf) | ((with_reducible apply ChkF.go); conv => whnf) | ((with_reducible apply ChkB.go); conv => whnf) | (exact XSame.mk rfl rfl) | (exact XSame.mk (by first | rfl | (simp only [List.map_append, List.length_append, List.length_map]; done) | (simp only [List.map_append, List.length_append, List.length_map]; rfl)) (by first | rfl | (simp only [List.map_append]; done) | (simp only [List.map_append]; rfl))) | (with_reducible exact trivial) | ((with_reducible refine xdrop_app (by rw [List.length_map]; omega) ?_); conv => whnf) | ((with_reducible refine XDrop.desk (by assumption) ?_); conv => whnf) | ((with_reducible refine XArr.ints (by omega) (by omega) (by omega) ?_); conv => whnf) | ((with_reducible refine XArr.intsA (by omega) (by omega) (by omega) ?_); conv => whnf) | ((with_reducible refine XArr.nats ?_ ?_ ?_); omega; omega; conv => whnf) | ((with_reducible refine XArr.natsA ?_ ?_ ?_); omega; omega; conv => whnf) | ((with_reducible apply XArr.pim0); conv => whnf) | ((with_reducible apply XArr.pim1); conv => whnf) | ((with_reducible refine XArr.ptr ?_ ?_ ?_); omega; omega; conv => whnf) | ((refine XCall.ret hrc ?_); conv => whnf) | ((refine XCall.ret hW ?_); conv => whnf) | ((refine XCall.ret hB ?_); conv => whnf) | ((refine XCall.ret hS ?_); conv => whnf) | ((with_reducible apply XBr.mk') <;> (intro h; conv => whnf))
      refine Walk.loop tab_ok [] (fun _ : Unit => True) (fun _ => [(1, .pim (ldC l)), (3, .ptr 0 0), (4, .ptr 1 0), (5, .int .i64 e), (6, .sl true []), (7, .int .i64 e), (8, .sl true []), (9, .int .i64 e), (10, .sl true []), (11, .int .i64 e), (12, .sl true []), (13, .sl true []), (14, .sl true []), (44, natA l.sacks.length), (45, natA 0)]) (fun _ => [.cells (ldC (ownL l)), .cells (ldC (thL l))]) (fun _ => 0) () trivial rfl ⟨rfl, rfl, rfl, rfl, rfl, rfl, rfl, rfl, rfl, rfl, rfl, rfl, rfl, congrArg (fun n => some (AV.int .i64 n)) e1, rfl, trivial⟩ ?_
      intro _ _
      conv => whnf
      repeat' first | ((with_reducible apply XBr.tt); conv => whnf) | ((with_reducible apply XBr.ff); conv => whnf) | (with_reducible apply XBr.not) | ((with_reducible apply XBr.dec) <;> (intro h; first | (exfalso; omega) | ((try simp only [List.length_map] at h); first | (exfalso; omega) | (conv => whnf)))) | ((with_reducible apply XBr.beq) <;> (intro h; first | (exfalso; omega) | (conv => whnf))) | ((with_reducible apply XBr.bne) <;> (intro h; first | (exfalso; omega) | (conv => whnf))) | ((with_reducible refine XInt.i64 (by omega) (by omega) ?_); conv => whnf) | ((with_reducible refine XHold.mk ?_ ?_); (first | omega | rfl | decide | exact ⟨rfl, by decide, rfl⟩ | exact wideI _ | exact widePr _ | exact wideSk _ | (unfold Room; constructor <;> ((try simp) <;> omega)) | exact ⟨rfl, by simp only [List.length_map], by unfold Room; constructor <;> ((try simp) <;> omega)⟩ | exact ⟨by omega, by omega, by unfold Room; constructor <;> ((try simp) <;> omega)⟩); conv => whnf) | ((with_reducible refine XIx.nat ?_ ?_ ?_); omega; (intro _; rfl); conv => whnf) | ((with_reducible refine XIx.map ?_ ?_ ?_ ?_); omega; omega; (intro _; rfl); conv => whnf) | (with_reducible apply XAnd.mk) | ((with_reducible apply Chk.go); conv => whnf) | ((with_reducible apply ChkA.go); conv => whnf) | ((with_reducible apply ChkF.go); conv => whnf) | ((with_reducible apply ChkB.go); conv => whnf) | (exact XSame.mk rfl rfl) | (exact XSame.mk (by first | rfl | (simp only [List.map_append, List.length_append, List.length_map]; done) | (simp only [List.map_append, List.length_append, List.length_map]; rfl)) (by first | rfl | (simp only [List.map_append]; done) | (simp only [List.map_append]; rfl))) | (with_reducible exact trivial) | ((with_reducible refine xdrop_app (by rw [List.length_map]; omega) ?_); conv => whnf) | ((with_reducible refine XDrop.desk (by assumption) ?_); conv => whnf) | ((with_reducible refine XArr.ints (by omega) (by omega) (by omega) ?_); conv => whnf) | ((with_reducible refine XArr.intsA (by omega) (by omega) (by omega) ?_); conv => whnf) | ((with_reducible refine XArr.nats ?_ ?_ ?_); omega; omega; conv => whnf) | ((with_reducible refine XArr.natsA ?_ ?_ ?_); omega; omega; conv => whnf) | ((with_reducible apply XArr.pim0); conv => whnf) | ((with_reducible apply XArr.pim1); conv => whnf) | ((with_reducible refine XArr.ptr ?_ ?_ ?_); omega; omega; conv => whnf) | ((with_reducible apply XBr.mk') <;> (intro h; conv => whnf))
      all_goals
        refine Walk.norm tab_ok [] [(1, .pim (ldC l)), (3, .ptr 0 0), (5, .int .i64 e), (6, .sl true []), (7, .int .i64 e), (8, .sl true []), (9, .int .i64 e), (10, .sl true []), (11, .int .i64 e), (12, .sl true []), (13, .sl true []), (14, .sl true [])] ⟨rfl, rfl, rfl, rfl, rfl, rfl, rfl, rfl, rfl, rfl, rfl, rfl, trivial⟩ ?_
        conv => whnf
        repeat' first | ((with_reducible apply XBr.tt); conv => whnf) | ((with_reducible apply XBr.ff); conv => whnf) | (with_reducible apply XBr.not) | ((with_reducible apply XBr.dec) <;> (intro h; first | (exfalso; omega) | ((try simp only [List.length_map] at h); first | (exfalso; omega) | (conv => whnf)))) | ((with_reducible apply XBr.beq) <;> (intro h; first | (exfalso; omega) | (conv => whnf))) | ((with_reducible apply XBr.bne) <;> (intro h; first | (exfalso; omega) | (conv => whnf))) | ((with_reducible refine XInt.i64 (by omega) (by omega) ?_); conv => whnf) | ((with_reducible refine XHold.mk ?_ ?_); (first | omega | rfl | decide | exact ⟨rfl, by decide, rfl⟩ | exact wideI _ | exact widePr _ | exact wideSk _ | (unfold Room; constructor <;> ((try simp) <;> omega)) | exact ⟨rfl, by simp only [List.length_map], by unfold Room; constructor <;> ((try simp) <;> omega)⟩ | exact ⟨by omega, by omega, by unfold Room; constructor <;> ((try simp) <;> omega)⟩); conv => whnf) | ((with_reducible refine XIx.nat ?_ ?_ ?_); omega; (intro _; rfl); conv => whnf) | ((with_reducible refine XIx.map ?_ ?_ ?_ ?_); omega; omega; (intro _; rfl); conv => whnf) | (with_reducible apply XAnd.mk) | ((with_reducible apply Chk.go); conv => whnf) | ((with_reducible apply ChkA.go); conv => whnf) | ((with_reducible apply ChkF.go); conv => whnf) | ((with_reducible apply ChkB.go); conv => whnf) | (exact XSame.mk rfl rfl) | (exact XSame.mk (by first | rfl | (simp only [List.map_append, List.length_append, List.length_map]; done) | (simp only [List.map_append, List.length_append, List.length_map]; rfl)) (by first | rfl | (simp only [List.map_append]; done) | (simp only [List.map_append]; rfl))) | (with_reducible exact trivial) | ((with_reducible refine xdrop_app (by rw [List.length_map]; omega) ?_); conv => whnf) | ((with_reducible refine XDrop.desk (by assumption) ?_); conv => whnf) | ((with_reducible refine XArr.ints (by omega) (by omega) (by omega) ?_); conv => whnf) | ((with_reducible refine XArr.intsA (by omega) (by omega) (by omega) ?_); conv => whnf) | ((with_reducible refine XArr.nats ?_ ?_ ?_); omega; omega; conv => whnf) | ((with_reducible refine XArr.natsA ?_ ?_ ?_); omega; omega; conv => whnf) | ((with_reducible apply XArr.pim0); conv => whnf) | ((with_reducible apply XArr.pim1); conv => whnf) | ((with_reducible refine XArr.ptr ?_ ?_ ?_); omega; omega; conv => whnf) | ((refine XCall.ret hck ?_); conv => whnf) | ((refine XCall.ret (eqI true true [] (by decide)) ?_); conv => whnf) | ((refine XCall.ret (eqRows true true [] (by decide) (by simp)) ?_); conv => whnf) | ((refine XCall.ret hsm ?_); conv => whnf) | ((refine XCall.ret awake_c ?_); conv => whnf) | ((with_reducible apply XBr.mk') <;> (intro h; conv => whnf))
        all_goals first | exact XOut.bool rfl | (exfalso; exact absurd rfl (by assumption))
end GA
end
